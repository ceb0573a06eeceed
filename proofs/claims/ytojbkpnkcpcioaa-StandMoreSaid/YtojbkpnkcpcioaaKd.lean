/- Kd: texts joined (PvZ PvL). -/
import Derived.Test.YtojbkpnkcpcioaaPvY
import Derived.Test.YtojbkpnkcpcioaaProg
import Derived.KernelRfl
set_option linter.all false
/- The logic of plain data, third part: calls walked in place, loops over a state's own entries. Seat-independent. -/
namespace Go.Pv
open Go Go.RowKit Go.Sh
variable {K : Kx}

def initV : Nat → List AV → List (Nat × AV)
  | _, [] => []
  | i, r :: rs => (i, r) :: initV (i + 1) rs
theorem initV_get : ∀ (rs : List AV) (i t : Nat), AL.get (initV i rs) t = if i ≤ t ∧ t < i + rs.length then rs[t - i]? else none
  | [], i, t => by simp [initV, AL.get]
  | r :: rs, i, t => by
    simp only [initV, AL.get, initV_get rs (i + 1) t, List.length_cons]
    by_cases h : t = i
    · subst h; simp
    · rw [if_neg h]
      by_cases h2 : i + 1 ≤ t ∧ t < i + 1 + rs.length
      · rw [if_pos h2, if_pos (by omega), show t - i = (t - (i + 1)) + 1 by omega, List.getElem?_cons_succ]
      · rw [if_neg h2, if_neg (by omega)]

def capV : CC → AV
  | .box b => .one (.box b 0)
  | .p x => .one (.p x)
theorem capV_rel {s : Sit} {c : CC} {u : Value} (h : RelCC s c u) : RelV s (capV c) u := by
  cases c with
  | box b => exact h
  | p x => exact h

def RelVs (s : Sit) (avs : List AV) (us : Array Value) : Prop := us.size = avs.length ∧ ∀ (j : Nat) (x : AV), avs[j]? = some x → ∃ u, us[j]? = some u ∧ RelV s x u

/-- A call of a function, in a state: what it leaves. -/
def CallF (K : Kx) (fid : FuncId) (avs : List AV) (st : St) (Q : St → AV → Prop) : Prop :=
  ∀ σ a w us, Rel K σ st a w → RelVs (sit K σ st w) avs us → Calls K.P fid us w fun e w' => ∃ u, e = .returned u ∧ ∃ σ' st' av, Rel K σ' st' a w' ∧ RelV (sit K σ' st' w') av u ∧ Q st' av

theorem CallF.mono {fid : FuncId} {avs : List AV} {st : St} {Q Q' : St → AV → Prop} (h : CallF K fid avs st Q) (hq : ∀ st' av, Q st' av → Q' st' av) : CallF K fid avs st Q' :=
  fun σ a w us hr hv => (h σ a w us hr hv).mono fun _ _ ⟨u, he, σ', st', av, h1, h2, h3⟩ => ⟨u, he, σ', st', av, h1, h2, hq _ _ h3⟩

/-- Ahead of a call less may be said. -/
theorem CallF.weak {fid : FuncId} {avs : List AV} {st st' : St} {Q : St → AV → Prop} (t : List Nat) (hk : ∀ σ a w us, Rel K σ st a w → RelVs (sit K σ st w) avs us → ∃ σ', Rel K σ' st' a w ∧ RelVs (sit K σ' st' w) avs us) (h : CallF K fid avs st' Q) : CallF K fid avs st Q :=
  fun σ a w us hr hv => let ⟨σ', h1, h2⟩ := hk σ a w us hr hv; h σ' a w us h1 h2

theorem callS_of {st : St} {o : Oper} {Q : St → Prop} {f : Operand} {args : Array Operand} {argTypes : Array TypeId} (hd : dstOK K o.dst = true) (ho : o.op = .call { callee := .value f, args := args, argTypes := argTypes })
    (fid : FuncId) {caps : List CC} {avs : List AV} (h1 : (evalA (AL.get st.fr) f).bind fnA = some (fid, caps)) (h2 : mapO (evalA (AL.get st.fr)) args.toList = some avs)
    {fn : Func} (h5 : K.P.funcs[fid]? = some fn) (h6 : fn.body.isSome = true) (h7 : fn.name ≠ "runtime.NumGoroutine") (h : CallF K fid (avs ++ caps.map capV) st fun st' av => Q (st'.put o.dst av)) : CallS K st o Q := by
  intro σ a w hr
  obtain ⟨us, hus, hs0, hcap⟩ := fn_rel hr.evF h1
  rw [← mapM_eq] at h2
  obtain ⟨hl, ha⟩ := mapM_get h2
  have hrun : (execOp a.eval o).run K.P w = .ok (.enter fid (args.map a.eval ++ us)) w := by
    simp [execOp, ho, resolve, invoke, hus, Deferred.ofValue, run_callFunc h5 h6 h7]
  have hl' : args.size = avs.length := by simpa using hl.symm
  refine ⟨fid, _, hrun, ?_⟩
  refine (h σ a w _ hr ⟨by simp [hs0, hl'], fun j x hj => ?_⟩).mono fun e w' ⟨u, he, σ', st', av, h1, h2, h3⟩ => ⟨u, he, σ', _, h1.put hd h2, h3⟩
  by_cases hjl : j < avs.length
  · rw [List.getElem?_append_left hjl] at hj
    obtain ⟨y, hy, hf⟩ := ha j x hj
    have hy' : args[j]? = some y := by simpa using hy
    refine ⟨a.eval y, ?_, hr.evF y x hf⟩
    rw [Array.getElem?_append_left (by simp [hl']; exact hjl)]
    simp [hy']
  · rw [List.getElem?_append_right (by omega), List.getElem?_map] at hj
    cases hq : caps[j - avs.length]? with
    | none => rw [hq] at hj; cases hj
    | some c =>
      rw [hq] at hj; cases hj
      obtain ⟨v, hv, hrv⟩ := hcap _ c hq
      refine ⟨v, ?_, capV_rel hrv⟩
      rw [Array.getElem?_append_right (by simp [hl']; omega)]
      simpa [hl'] using hv

theorem callS_ok {ops : Array Oper} {o : Oper} {r : List Oper} {st : St} {Q : St → Prop} {f : Operand} {args : Array Operand} {argTypes : Array TypeId} (hd : dstOK K o.dst = true) (ho : o.op = .call { callee := .value f, args := args, argTypes := argTypes })
    (fid : FuncId) {caps : List CC} {avs : List AV} (h1 : (evalA (AL.get st.fr) f).bind fnA = some (fid, caps)) (h2 : mapO (evalA (AL.get st.fr)) args.toList = some avs)
    {fn : Func} (h5 : K.P.funcs[fid]? = some fn) (h6 : fn.body.isSome = true) (h7 : fn.name ≠ "runtime.NumGoroutine") (h : CallF K fid (avs ++ caps.map capV) st fun st' av => evOps K ops r (st'.put o.dst av) Q) : CallO K ops o r st Q :=
  ⟨hd, .inr ⟨⟨f, args, argTypes, ho⟩, callS_of hd ho fid h1 h2 h5 h6 h7 h⟩⟩

def resV1 (P : Program) (st : St) : ResultVar → Option AV
  | .tmp t => AL.get st.fr t
  | .cell a ty => (AL.get st.fr a).bind fun av => loadA P (AL.get st.hp) ty av
def resV (P : Program) (st : St) : List ResultVar → Option AV
  | [r] => resV1 P st r
  | rs => (mapO (fun r => (resV1 P st r).bind (rvA false (AL.get st.hp))) rs).map .tup

theorem resV1_run {σ : Nat → Option Value} {st : St} {a : Act} {w : World} (h : Rel K σ st a w) {rv : ResultVar} {av : AV} (hr : resV1 K.P st rv = some av) :
    ∃ u, (resF a.tmps rv).run K.P w = .ok u w ∧ RelV (sit K σ st w) av u := by
  cases rv with
  | tmp t => exact ⟨_, rfl, (h.fr t av hr).2⟩
  | cell ad ty =>
    simp only [resV1, Option.bind_eq_some_iff] at hr
    obtain ⟨av0, hav, hv⟩ := hr
    obtain ⟨x, hx, hrx⟩ := loadA_run (P := K.P) h.heap (h.fr ad av0 hav).2 hv
    have hrow : ∃ row, rowAtA (sit K σ st w).h av0 = some row := by
      unfold loadA at hv
      simp only [Option.bind_eq_some_iff] at hv
      obtain ⟨row, h1, _⟩ := hv
      exact ⟨row, h1⟩
    obtain ⟨row, hrow⟩ := hrow
    obtain ⟨b, o, hp, _⟩ := rowAtA_rel h.heap (h.fr ad av0 hav).2 hrow
    refine ⟨x, ?_, hrx⟩
    simp only [resF]
    rw [hp] at hx ⊢
    simp only [Instr.loadAt, Instr.sureAddr, Sem.run_bind, Sem.run_pure, Result.andThen_ok] at hx
    simp only [asAddr, Sem.run_bind, Sem.run_pure, Result.andThen_ok]
    exact hx

theorem resV_run {σ : Nat → Option Value} {st : St} {a : Act} {w : World} (h : Rel K σ st a w) {fn : Func} {av : AV} (hr : resV K.P st fn.results.toList = some av) : ∃ u, (results fn a.tmps).run K.P w = .ok u w ∧ RelV (sit K σ st w) av u := by
  have hm : ∀ {w'}, (fn.results.mapM (resF a.tmps)).run K.P w' = (List.toArray <$> fn.results.toList.mapM (resF a.tmps)).run K.P w' := by
    intro w'; rw [Array.mapM_eq_mapM_toList]
  have key : ∀ (l : List ResultVar) (rs : List RV), mapO (fun r => (resV1 K.P st r).bind (rvA false (AL.get st.hp))) l = some rs → ∃ us : List Value, (l.mapM (resF a.tmps)).run K.P w = .ok us w ∧ RelRs (sit K σ st w).Safe w rs us.toArray := by
    intro l
    induction l with
    | nil => intro rs hrs; cases hrs; exact ⟨[], rfl, rfl, by simp⟩
    | cons rv l ih =>
      intro rs hrs
      rw [← mapM_eq] at hrs
      simp only [List.mapM_cons, Option.pure_def, Option.bind_eq_bind, Option.bind_eq_some_iff, Option.some.injEq] at hrs
      obtain ⟨r1, ⟨av1, h1, hrv⟩, rs', h2, rfl⟩ := hrs
      obtain ⟨u, hu, hru⟩ := resV1_run h h1
      obtain ⟨us, hus, hs, hrel⟩ := ih rs' (by rw [← mapM_eq]; exact h2)
      have hsafe : ∀ b c, (sit K σ st w).Zc false b c → (sit K σ st w).Safe b c := by
        intro b c hz
        rcases hz with hz | ⟨hz, _⟩
        · exact hz
        · cases hz
      have hru2 : RelR (sit K σ st w).Safe w r1 u := (rvA_rel h.heap hru hrv).mono fun b c x hz hc => ⟨hsafe b c hz, hc⟩
      refine ⟨u :: us, ?_, by simpa using hs, fun j r hj => ?_⟩
      · simp only [List.mapM_cons, Sem.run_bind]
        rw [hu]
        simp only [Result.andThen_ok, Sem.run_bind]
        rw [hus]
        rfl
      · cases j with
        | zero => simp at hj; subst hj; exact ⟨u, by simp, hru2⟩
        | succ j =>
          obtain ⟨x, hx, hrx⟩ := hrel j r (by simpa using hj)
          exact ⟨x, by simpa using hx, hrx⟩
  rcases hl : fn.results.toList with _ | ⟨r1, _ | ⟨r2, rs⟩⟩
  · rw [hl] at hr
    cases hr
    rw [results_eq, Sem.run_bind, hm, hl, Sem.run_map]
    exact ⟨.tuple #[], rfl, #[], rfl, rfl, by simp⟩
  · rw [hl] at hr
    obtain ⟨u, hu, hru⟩ := resV1_run h hr
    refine ⟨u, ?_, hru⟩
    rw [results_eq, Sem.run_bind, hm, hl, Sem.run_map]
    simp only [List.mapM_cons, List.mapM_nil, Sem.run_bind, hu, Result.andThen_ok]
    rfl
  · rw [hl] at hr
    simp only [resV, Option.map_eq_some_iff] at hr
    obtain ⟨rs', hrs, rfl⟩ := hr
    obtain ⟨us, hus, hrel⟩ := key _ rs' hrs
    have hlen : us.length = rs'.length := by simpa using hrel.1
    have hlen2 : rs'.length = rs.length + 2 := by
      rw [← mapM_eq] at hrs
      have := (mapM_get hrs).1
      simpa using this
    refine ⟨.tuple us.toArray, ?_, us.toArray, rfl, hrel⟩
    rw [results_eq, Sem.run_bind, hm, hl, Sem.run_map, hus]
    simp only [Result.andThen]
    have hne : ¬ (us.toArray.size = 1) := by intro h1; rw [List.size_toArray, hlen] at h1; omega
    rw [dif_neg hne]
    rfl

/-- A call, walked in place: the caller's frame is kept. -/
theorem callF_in {fid : FuncId} {avs : List AV} {st : St} {Q : St → AV → Prop} {fn : Func} {c : Code} {nt : Nat} {rs : List ResultVar} (hf : K.P.funcs[fid]? = some fn) (hb : fn.body = some c) (hnt : fn.ntmps = nt) (hrs : fn.results.toList = rs) (hn : avs.length ≤ nt)
    (h : ∀ tm, AW { K with nt := nt } c (fun e st' => (e = .normal ∨ e = .ret) ∧ ∃ av, resV K.P st' rs = some av ∧ AL.get st'.hp st.nx = some (.kept st.fr tm) ∧ Q ⟨st.fr, st'.hp, st'.nx⟩ av) ⟨initV 0 avs, (st.nx, .kept st.fr tm) :: st.hp, st.nx + 1⟩) : CallF K fid avs st Q := by
  subst hnt hrs
  intro σ a w us hr hus
  refine calls_of_wp hf hb ?_
  have hσ : σ st.nx = none := hr.fresh (Nat.le_refl _)
  let st0 : St := ⟨initV 0 avs, (st.nx, .kept st.fr fun t => a.tmps.getD t undef) :: st.hp, st.nx + 1⟩
  have hget : ∀ id, id ≠ st.nx → AL.get st0.hp id = AL.get st.hp id := fun id hid => by simp [st0, AL.get, hid]
  have he : Ext (sit K σ st w) (sit K σ st0 w) := by
    refine ⟨fun _ _ _ _ h => h, fun b c _ hs => ⟨hs.1, fun id l hl hb => ?_⟩, fun id cs l h1 h2 => ?_, fun id E k rows sh l h1 h2 => ?_⟩
    · have hid : id ≠ st.nx := by rintro rfl; simp only [sit] at hl; rw [hσ] at hl; cases hl
      obtain ⟨E, k, rows, h1, h2⟩ := hs.2 id l hl hb
      exact ⟨E, k, rows, by simp only [sit]; rw [hget id hid]; exact h1, h2⟩
    · have hid : id ≠ st.nx := by rintro rfl; simp only [sit] at h2; rw [hσ] at h2; cases h2
      exact ⟨h2, cs, by simp only [sit]; rw [hget id hid]; exact h1⟩
    · have hid : id ≠ st.nx := by rintro rfl; simp only [sit] at h2; rw [hσ] at h2; cases h2
      exact ⟨rows, sh, l, by simp only [sit]; rw [hget id hid]; exact h1, h2, .inl ⟨rfl, rfl, fun h => h⟩⟩
  have hrel : Rel { K with nt := fn.ntmps } σ st0 { tmps := us ++ Array.replicate (fn.ntmps - us.size) undef, defers := [] } w := by
    have hsz : us.size = avs.length := hus.1
    refine ⟨⟨fun id o ho => ?_, fun id l hl => ?_, hr.heap.inj, hr.heap.lt⟩, fun t av ht => ?_, fun id o ho => ?_, rfl, by simp; omega, hr.frm⟩
    · have ho' : AL.get st0.hp id = some o := ho
      by_cases hid : id = st.nx
      · subst hid
        simp only [st0, AL.get_eq, Option.some.injEq] at ho'
        subst ho'
        exact fun t av ht => he.relV (hr.fr t av ht).2
      · rw [hget id hid] at ho'
        exact (hr.heap.objs id o ho').ext he rfl rfl fun _ _ _ _ => rfl
    · obtain ⟨o, ho⟩ := hr.heap.dom id l hl
      by_cases hid : id = st.nx
      · exact ⟨_, by subst hid; simp only [sit, st0]; exact AL.get_eq _ _ _⟩
      · exact ⟨o, by simp only [sit]; rw [hget id hid]; exact ho⟩
    · have ht' : AL.get (initV 0 avs) t = some av := ht
      rw [initV_get] at ht'
      split at ht'
      · obtain ⟨u, hu, hv⟩ := hus.2 t av (by simpa using ht')
        have hlt : t < us.size := (Array.getElem?_eq_some_iff.1 hu).1
        refine ⟨by simp; omega, ?_⟩
        have : (us ++ Array.replicate (fn.ntmps - us.size) undef).getD t undef = u := by
          rw [Array.getD_eq_getD_getElem?, Array.getElem?_append_left hlt, hu]; rfl
        rw [this]
        exact he.relV hv
      · cases ht'
    · by_cases hid : id = st.nx
      · subst hid; exact Nat.lt_succ_self _
      · rw [hget id hid] at ho
        exact Nat.lt_succ_of_lt (hr.lt id o ho)
  refine Code.wp_mono (fun e a' w' hpost => ?_) (h (fun t => a.tmps.getD t undef) _ _ _ hrel)
  obtain ⟨σ', st', ⟨hex, av, hres, hkept, hq⟩, hr'⟩ := hpost
  obtain ⟨u, hu, hru⟩ := resV_run (K := { K with nt := fn.ntmps }) hr' hres
  have hk := hr'.heap.objs st.nx _ hkept
  have hback : Rel K σ' ⟨st.fr, st'.hp, st'.nx⟩ a w' :=
    ⟨hr'.heap, fun t av ht => ⟨(hr.fr t av ht).1, hk t av ht⟩, hr'.lt, hr.df, hr.nt, hr'.frm⟩
  have hpost : a'.defers = [] ∧ ∃ v, (results fn a'.tmps).run K.P w' = .ok v w' ∧ ∃ u, Ending.returned v = .returned u ∧ ∃ σ' st' av, Rel K σ' st' a w' ∧ RelV (sit K σ' st' w') av u ∧ Q st' av :=
    ⟨hr'.df, u, hu, u, rfl, σ', _, av, hback, hru, hq⟩
  rcases hex with rfl | rfl
  · exact hpost
  · exact hpost

/-- A nil slice in a box, taken as one's own. -/
theorem weak_ownB {st : St} (b j : Nat) (E k : Nat) {cs : List AC} (hb : AL.get st.hp b = some (.box cs)) (hc : cs[j]? = some .nil) :
    Weak K st ⟨st.fr, AL.set (AL.set st.hp st.nx (.arr E k [] true)) b (.box (cs.set j (.own st.nx 0))), st.nx + 1⟩ := by
  intro σ a w hr
  have hnone := hr.fresh (Nat.le_refl _)
  obtain ⟨p1, p2⟩ := new_arr hr.heap (id := st.nx) hnone hr.frm.size (E := E) (k := k) (rows := []) true (val := .slice none 0 0) (xs := []) (w' := w) (World.ownsRow_nil w _ E k) ⟨rfl, rfl, rfl, Nat.le_refl _, fun _ _ _ => rfl⟩ (fun b hb => by cases hb) (fun i row hi => by simp at hi) (fun i row j c hi => by simp at hi)
  have hu := hr.upd (id := st.nx) (Turn.put (w' := w) p1 p2 (fun _ _ => rfl) (Nat.le_refl _) rfl rfl rfl)
  simp only [St.upd, Nat.lt_irrefl, if_false] at hu
  have hbn : b ≠ st.nx := by have := hr.lt b _ hb; omega
  have hb' : AL.get (AL.set st.hp st.nx (.arr E k [] true)) b = some (.box cs) := by rw [AL.get_set, if_neg hbn]; exact hb
  obtain ⟨blk, vs, ty, h1, h2, h3⟩ := hu.heap.objs b _ hb'
  have hbox : RelCs (sit K (Pv.upd σ st.nx (.slice none 0 0)) ⟨st.fr, AL.set st.hp st.nx (.arr E k [] true), st.nx + 1⟩ w) (cs.set j (.own st.nx 0)) vs := by
    refine ⟨by simpa using h3.1, fun i c hi => ?_⟩
    by_cases hij : i = j
    · subst hij
      have hlt : i < cs.length := (List.getElem?_eq_some_iff.1 hc).1
      rw [List.getElem?_set_self (by simpa using hlt)] at hi
      cases hi
      obtain ⟨x, hx, hrx⟩ := h3.2 i _ hc
      refine ⟨x, hx, ?_⟩
      rw [show x = .slice none 0 0 from hrx]
      exact ⟨E, k, [], true, .slice none 0 0, by simp [sit, AL.set, AL.get_eq], upd_same σ st.nx _, Nat.le_refl _, fun _ => rfl, fun hlt => by simp at hlt⟩
    · rw [List.getElem?_set_ne (by omega)] at hi
      exact h3.2 i c hi
  have hlt := hu.heap.lt b _ blk h1 rfl
  obtain ⟨q1, q2⟩ := set_box hu.heap hb' h1 (cs' := cs.set j (.own st.nx 0)) (vs' := vs) (ty := ty) (w' := w) rfl (fun _ _ => rfl) h2 hbox
  have hu2 := hu.upd (id := b) (Turn.put (w' := w) q1 q2 (fun _ _ => rfl) (Nat.le_refl _) rfl rfl rfl)
  have hb1 : b < st.nx + 1 := by have := hr.lt b _ hb; omega
  simp only [St.upd, if_pos hb1] at hu2
  exact ⟨_, hu2⟩
theorem eqIn_bool {P : Program} {T : TypeId} {a b : Bool} {d : Nat} (h : P.underlying T = some .bool) : peek P (Op.equalIn (d + 1) T (.bool a) (.bool b)) = some (a == b) := by
  unfold Op.equalIn
  rw [peek_bind, peek_und h, Option.bind_some]
  rfl
theorem bin_eql_bool {P : Program} {T : TypeId} (h : P.underlying T = some .bool) (x y : Operand) (a b : Bool) : binA P .eql T x y (.bool a) (.bool b) = some (.bool (a == b)) := by
  have he : peek P (Op.equal T (.bool a) (.bool b)) = some (a == b) := by
    exact eqIn_bool (d := 9999) h
  unfold binA eqGuard binOp
  simp [peek_bind, peek_map, he, peek_pure]
theorem bin_neq_bool {P : Program} {T : TypeId} (h : P.underlying T = some .bool) (x y : Operand) (a b : Bool) : binA P .neq T x y (.bool a) (.bool b) = some (.bool (a != b)) := by
  have he : peek P (Op.equal T (.bool a) (.bool b)) = some (a == b) := by
    exact eqIn_bool (d := 9999) h
  unfold binA eqGuard binOp
  simp [peek_bind, peek_map, he, peek_pure]
  cases a <;> cases b <;> rfl
theorem bne_tf : (true != false) = true := rfl
theorem bne_ft : (false != true) = true := rfl
theorem beq_tf : (true == false) = false := rfl
theorem beq_ft : (false == true) = false := rfl

theorem beq_t_d {a b : Int} (h : a = b) : (a == b) = true := by simp [h]
theorem beq_f_d {a b : Int} (h : a ≠ b) : (a == b) = false := by simp [h]
theorem bne_t_d {a b : Int} (h : a ≠ b) : (a != b) = true := by simp [h]
theorem bne_f_d {a b : Int} (h : a = b) : (a != b) = false := by simp [h]

/-! ### Loops over a state's own entries -/

/-- The objects that are to be reached. -/
def reachL (hp : Nat → Option Obj') : Nat → List Nat → List Nat → List Nat
  | 0, _, seen => seen
  | _ + 1, [], seen => seen
  | n + 1, i :: todo, seen => if seen.contains i = true then reachL hp n todo seen else
      match hp i with
      | some o => reachL hp n (refsO o ++ todo) (seen ++ [i])
      | none => reachL hp n todo seen
def slotRefs (fr : List (Nat × AV)) : List Nat → List Nat
  | [] => []
  | t :: r => (match AL.get fr t with | some av => refsV av | none => []) ++ slotRefs fr r
/-- The slots that are there. -/
def there (fr : List (Nat × AV)) : List Nat → List Nat
  | [] => []
  | t :: r => (match AL.get fr t with | some _ => [t] | none => []) ++ there fr r
def keep (st : St) (slots : List Nat) : Option St := restrict st (there st.fr slots) (reachL (AL.get st.hp) 200 (slotRefs st.fr slots) []) st.nx
theorem weak_keep {st st' : St} (slots : List Nat) (h : keep st slots = some st') : Weak K st st' := weak_restrict _ _ _ h
def keys {α : Type} : List (Nat × α) → List Nat
  | [] => []
  | (k, _) :: r => k :: keys r
theorem weak_round {st T : St} (h : restrict st (keys T.fr) (keys T.hp) (if T.nx < st.nx then st.nx else T.nx) = some ⟨T.fr, T.hp, if T.nx < st.nx then st.nx else T.nx⟩) (hT : ((keys T.hp).all fun i => decide (i < T.nx)) = true) : Weak K st T := by
  intro σ a w hr
  obtain ⟨σ', hr'⟩ := weak_restrict _ _ _ h σ a w hr
  refine ⟨σ', hr'.heap, hr'.fr, fun id o ho => ?_, hr'.df, hr'.nt, hr'.frm⟩
  have : ∀ (l : List (Nat × Obj')), AL.get l id = some o → id ∈ keys l := by
    intro l
    induction l with
    | nil => intro h; simp [AL.get] at h
    | cons p l ih =>
      obtain ⟨k, x⟩ := p
      intro h
      simp only [AL.get] at h
      split at h
      · rename_i hk; subst hk; exact List.mem_cons_self
      · exact List.mem_cons_of_mem _ (ih h)
  have := List.all_eq_true.1 hT id (this _ ho)
  simpa using this
def ovL {α : Type} (f : List (Nat × α)) : List (Nat × α) → List (Nat × α)
  | [] => []
  | (k, x) :: r => (k, (AL.get f k).getD x) :: ovL f r
/-- The state with some entries turned. -/
def ov (st : St) (f : List (Nat × AV)) (h : List (Nat × Obj')) : St := ⟨ovL f st.fr, ovL h st.hp, st.nx⟩
theorem aw_loop_ov {ι : Type} {body : Code} {Q : Exit → St → Prop} {st : St} (fo : ι → List (Nat × AV)) (ho : ι → List (Nat × Obj')) (μ : ι → Nat) (i : ι) (h0 : ov st (fo i) (ho i) = st)
    (h : ∀ j, AW K body (thenA (fun st' => ∃ j', μ j' < μ j ∧ Weak K st' (ov st (fo j') (ho j'))) Q) (ov st (fo j) (ho j))) : AW K (.loop body) Q st := by
  have := aw_loop (fun j => ov st (fo j) (ho j)) μ h i
  rw [h0] at this
  exact this
end Go.Pv
/- Facts on the types of the translation, for the logic Pv. -/
namespace Go.Proofs.Ytojbkpnkcpcioaa
open Go Go.Pv
theorem ty_size0 : tySize Try.prog 0 = some (1) := by kernel_rfl
theorem ty_agg0 : tyAgg Try.prog 0 = some (false) := by kernel_rfl
theorem ty_bytes0 : tyBytes Try.prog 0 = some (0) := by kernel_rfl
theorem ty_size1 : tySize Try.prog 1 = some (1) := by kernel_rfl
theorem ty_agg1 : tyAgg Try.prog 1 = some (false) := by kernel_rfl
theorem ty_bytes1 : tyBytes Try.prog 1 = some (8) := by kernel_rfl
theorem ty_zero1 : tyZero Try.prog 1 = some ([(AC.p (PV.v Value.nilFunc))]) := by kernel_rfl
theorem ty_size2 : tySize Try.prog 2 = some (1) := by kernel_rfl
theorem ty_agg2 : tyAgg Try.prog 2 = some (false) := by kernel_rfl
theorem ty_bytes2 : tyBytes Try.prog 2 = some (8) := by kernel_rfl
theorem ty_zero2 : tyZero Try.prog 2 = some ([(AC.p (PV.v (Value.int IntKind.i64 0)))]) := by kernel_rfl
theorem ty_size3 : tySize Try.prog 3 = some (1) := by kernel_rfl
theorem ty_agg3 : tyAgg Try.prog 3 = some (false) := by kernel_rfl
theorem ty_bytes3 : tyBytes Try.prog 3 = some (8) := by kernel_rfl
theorem ty_zero3 : tyZero Try.prog 3 = some ([(AC.p (PV.v (Value.int IntKind.i64 0)))]) := by kernel_rfl
theorem ty_size4 : tySize Try.prog 4 = some (1) := by kernel_rfl
theorem ty_agg4 : tyAgg Try.prog 4 = some (false) := by kernel_rfl
theorem ty_bytes4 : tyBytes Try.prog 4 = some (1) := by kernel_rfl
theorem ty_zero4 : tyZero Try.prog 4 = some ([(AC.p (PV.v (Value.bool false)))]) := by kernel_rfl
theorem ty_size5 : tySize Try.prog 5 = some (1) := by kernel_rfl
theorem ty_agg5 : tyAgg Try.prog 5 = some (false) := by kernel_rfl
theorem ty_bytes5 : tyBytes Try.prog 5 = some (1) := by kernel_rfl
theorem ty_zero5 : tyZero Try.prog 5 = some ([(AC.p (PV.v (Value.int IntKind.u8 0)))]) := by kernel_rfl
theorem ty_size6 : tySize Try.prog 6 = some (1) := by kernel_rfl
theorem ty_agg6 : tyAgg Try.prog 6 = some (false) := by kernel_rfl
theorem ty_bytes6 : tyBytes Try.prog 6 = some (1) := by kernel_rfl
theorem ty_zero6 : tyZero Try.prog 6 = some ([(AC.p (PV.v (Value.int IntKind.u8 0)))]) := by kernel_rfl
theorem ty_size7 : tySize Try.prog 7 = some (4) := by kernel_rfl
theorem ty_agg7 : tyAgg Try.prog 7 = some (true) := by kernel_rfl
theorem ty_bytes7 : tyBytes Try.prog 7 = some (24) := by kernel_rfl
theorem ty_allsz7 : allSz Try.prog 7 = true := by kernel_rfl
theorem ty_noarr7 : arrElem Try.prog 7 = none := by kernel_rfl
theorem ty_zero7 : tyZero Try.prog 7 = some ([(AC.p (PV.v (Value.int IntKind.i64 0))), (AC.p (PV.v (Value.int IntKind.i64 0))), (AC.p (PV.v (Value.bool false))), (AC.p (PV.v (Value.int IntKind.u8 0)))]) := by kernel_rfl
theorem ty_fld7_0 : fldOf Try.prog 7 0 = some ((0, (1, false))) := by kernel_rfl
theorem ty_fld7_1 : fldOf Try.prog 7 1 = some ((1, (1, false))) := by kernel_rfl
theorem ty_fld7_2 : fldOf Try.prog 7 2 = some ((2, (1, false))) := by kernel_rfl
theorem ty_fld7_3 : fldOf Try.prog 7 3 = some ((3, (1, false))) := by kernel_rfl
theorem ty_size8 : tySize Try.prog 8 = some (4) := by kernel_rfl
theorem ty_agg8 : tyAgg Try.prog 8 = some (true) := by kernel_rfl
theorem ty_bytes8 : tyBytes Try.prog 8 = some (24) := by kernel_rfl
theorem ty_allsz8 : allSz Try.prog 8 = true := by kernel_rfl
theorem ty_noarr8 : arrElem Try.prog 8 = none := by kernel_rfl
theorem ty_zero8 : tyZero Try.prog 8 = some ([(AC.p (PV.v (Value.int IntKind.i64 0))), (AC.p (PV.v (Value.int IntKind.i64 0))), (AC.p (PV.v (Value.bool false))), (AC.p (PV.v (Value.int IntKind.u8 0)))]) := by kernel_rfl
theorem ty_fld8_0 : fldOf Try.prog 8 0 = some ((0, (1, false))) := by kernel_rfl
theorem ty_fld8_1 : fldOf Try.prog 8 1 = some ((1, (1, false))) := by kernel_rfl
theorem ty_fld8_2 : fldOf Try.prog 8 2 = some ((2, (1, false))) := by kernel_rfl
theorem ty_fld8_3 : fldOf Try.prog 8 3 = some ((3, (1, false))) := by kernel_rfl
theorem ty_size9 : tySize Try.prog 9 = some (1) := by kernel_rfl
theorem ty_agg9 : tyAgg Try.prog 9 = some (false) := by kernel_rfl
theorem ty_bytes9 : tyBytes Try.prog 9 = some (16) := by kernel_rfl
theorem ty_size10 : tySize Try.prog 10 = some (1) := by kernel_rfl
theorem ty_agg10 : tyAgg Try.prog 10 = some (false) := by kernel_rfl
theorem ty_bytes10 : tyBytes Try.prog 10 = some (16) := by kernel_rfl
theorem ty_size11 : tySize Try.prog 11 = some (1) := by kernel_rfl
theorem ty_agg11 : tyAgg Try.prog 11 = some (false) := by kernel_rfl
theorem ty_bytes11 : tyBytes Try.prog 11 = some (16) := by kernel_rfl
theorem ty_size12 : tySize Try.prog 12 = some (1) := by kernel_rfl
theorem ty_agg12 : tyAgg Try.prog 12 = some (false) := by kernel_rfl
theorem ty_bytes12 : tyBytes Try.prog 12 = some (8) := by kernel_rfl
theorem ty_zero12 : tyZero Try.prog 12 = some ([(AC.p (PV.v (Value.int IntKind.u64 0)))]) := by kernel_rfl
theorem ty_size13 : tySize Try.prog 13 = some (2) := by kernel_rfl
theorem ty_agg13 : tyAgg Try.prog 13 = some (true) := by kernel_rfl
theorem ty_bytes13 : tyBytes Try.prog 13 = some (24) := by kernel_rfl
theorem ty_allsz13 : allSz Try.prog 13 = true := by kernel_rfl
theorem ty_noarr13 : arrElem Try.prog 13 = none := by kernel_rfl
theorem ty_fld13_0 : fldOf Try.prog 13 0 = some ((0, (1, false))) := by kernel_rfl
theorem ty_fld13_1 : fldOf Try.prog 13 1 = some ((1, (1, false))) := by kernel_rfl
theorem ty_size14 : tySize Try.prog 14 = some (2) := by kernel_rfl
theorem ty_agg14 : tyAgg Try.prog 14 = some (true) := by kernel_rfl
theorem ty_bytes14 : tyBytes Try.prog 14 = some (24) := by kernel_rfl
theorem ty_allsz14 : allSz Try.prog 14 = true := by kernel_rfl
theorem ty_noarr14 : arrElem Try.prog 14 = none := by kernel_rfl
theorem ty_fld14_0 : fldOf Try.prog 14 0 = some ((0, (1, false))) := by kernel_rfl
theorem ty_fld14_1 : fldOf Try.prog 14 1 = some ((1, (1, false))) := by kernel_rfl
theorem ty_size15 : tySize Try.prog 15 = some (1) := by kernel_rfl
theorem ty_agg15 : tyAgg Try.prog 15 = some (false) := by kernel_rfl
theorem ty_bytes15 : tyBytes Try.prog 15 = some (8) := by kernel_rfl
theorem ty_zero15 : tyZero Try.prog 15 = some ([(AC.p (PV.v (Value.pointer none)))]) := by kernel_rfl
theorem ty_size16 : tySize Try.prog 16 = some (1) := by kernel_rfl
theorem ty_agg16 : tyAgg Try.prog 16 = some (false) := by kernel_rfl
theorem ty_bytes16 : tyBytes Try.prog 16 = some (8) := by kernel_rfl
theorem ty_zero16 : tyZero Try.prog 16 = some ([(AC.p (PV.v (Value.pointer none)))]) := by kernel_rfl
theorem ty_size17 : tySize Try.prog 17 = some (1) := by kernel_rfl
theorem ty_agg17 : tyAgg Try.prog 17 = some (false) := by kernel_rfl
theorem ty_bytes17 : tyBytes Try.prog 17 = some (8) := by kernel_rfl
theorem ty_zero17 : tyZero Try.prog 17 = some ([(AC.p (PV.v (Value.pointer none)))]) := by kernel_rfl
theorem ty_size18 : tySize Try.prog 18 = some (1) := by kernel_rfl
theorem ty_agg18 : tyAgg Try.prog 18 = some (true) := by kernel_rfl
theorem ty_bytes18 : tyBytes Try.prog 18 = some (8) := by kernel_rfl
theorem ty_allsz18 : allSz Try.prog 18 = true := by kernel_rfl
theorem ty_noarr18 : arrElem Try.prog 18 = none := by kernel_rfl
theorem ty_zero18 : tyZero Try.prog 18 = some ([(AC.p (PV.v (Value.pointer none)))]) := by kernel_rfl
theorem ty_fld18_0 : fldOf Try.prog 18 0 = some ((0, (1, false))) := by kernel_rfl
theorem ty_size19 : tySize Try.prog 19 = some (1) := by kernel_rfl
theorem ty_agg19 : tyAgg Try.prog 19 = some (true) := by kernel_rfl
theorem ty_bytes19 : tyBytes Try.prog 19 = some (8) := by kernel_rfl
theorem ty_allsz19 : allSz Try.prog 19 = true := by kernel_rfl
theorem ty_noarr19 : arrElem Try.prog 19 = none := by kernel_rfl
theorem ty_zero19 : tyZero Try.prog 19 = some ([(AC.p (PV.v (Value.pointer none)))]) := by kernel_rfl
theorem ty_fld19_0 : fldOf Try.prog 19 0 = some ((0, (1, false))) := by kernel_rfl
theorem ty_size20 : tySize Try.prog 20 = some (1) := by kernel_rfl
theorem ty_agg20 : tyAgg Try.prog 20 = some (false) := by kernel_rfl
theorem ty_bytes20 : tyBytes Try.prog 20 = some (16) := by kernel_rfl
theorem ty_zero20 : tyZero Try.prog 20 = some ([(AC.p (PV.v Value.nilIface))]) := by kernel_rfl
theorem ty_size21 : tySize Try.prog 21 = some (1) := by kernel_rfl
theorem ty_agg21 : tyAgg Try.prog 21 = some (false) := by kernel_rfl
theorem ty_bytes21 : tyBytes Try.prog 21 = some (4) := by kernel_rfl
theorem ty_zero21 : tyZero Try.prog 21 = some ([(AC.p (PV.v (Value.int IntKind.i32 0)))]) := by kernel_rfl
theorem ty_size22 : tySize Try.prog 22 = some (2) := by kernel_rfl
theorem ty_agg22 : tyAgg Try.prog 22 = some (true) := by kernel_rfl
theorem ty_bytes22 : tyBytes Try.prog 22 = some (16) := by kernel_rfl
theorem ty_allsz22 : allSz Try.prog 22 = true := by kernel_rfl
theorem ty_noarr22 : arrElem Try.prog 22 = none := by kernel_rfl
theorem ty_zero22 : tyZero Try.prog 22 = some ([(AC.p (PV.v (Value.int IntKind.i64 0))), (AC.p (PV.v (Value.int IntKind.i64 0)))]) := by kernel_rfl
theorem ty_fld22_0 : fldOf Try.prog 22 0 = some ((0, (1, false))) := by kernel_rfl
theorem ty_fld22_1 : fldOf Try.prog 22 1 = some ((1, (1, false))) := by kernel_rfl
theorem ty_size23 : tySize Try.prog 23 = some (2) := by kernel_rfl
theorem ty_agg23 : tyAgg Try.prog 23 = some (true) := by kernel_rfl
theorem ty_bytes23 : tyBytes Try.prog 23 = some (16) := by kernel_rfl
theorem ty_allsz23 : allSz Try.prog 23 = true := by kernel_rfl
theorem ty_noarr23 : arrElem Try.prog 23 = none := by kernel_rfl
theorem ty_zero23 : tyZero Try.prog 23 = some ([(AC.p (PV.v (Value.int IntKind.i64 0))), (AC.p (PV.v (Value.int IntKind.i64 0)))]) := by kernel_rfl
theorem ty_fld23_0 : fldOf Try.prog 23 0 = some ((0, (1, false))) := by kernel_rfl
theorem ty_fld23_1 : fldOf Try.prog 23 1 = some ((1, (1, false))) := by kernel_rfl
theorem ty_size24 : tySize Try.prog 24 = some (6) := by kernel_rfl
theorem ty_agg24 : tyAgg Try.prog 24 = some (true) := by kernel_rfl
theorem ty_bytes24 : tyBytes Try.prog 24 = some (48) := by kernel_rfl
theorem ty_elem24 : sliceElem Try.prog 24 = none := by kernel_rfl
theorem ty_arr24 : arrElem Try.prog 24 = some ((3, 23)) := by kernel_rfl
theorem ty_zero24 : tyZero Try.prog 24 = some ([(AC.p (PV.v (Value.int IntKind.i64 0))), (AC.p (PV.v (Value.int IntKind.i64 0))), (AC.p (PV.v (Value.int IntKind.i64 0))), (AC.p (PV.v (Value.int IntKind.i64 0))), (AC.p (PV.v (Value.int IntKind.i64 0))), (AC.p (PV.v (Value.int IntKind.i64 0)))]) := by kernel_rfl
theorem ty_size25 : tySize Try.prog 25 = some (1) := by kernel_rfl
theorem ty_agg25 : tyAgg Try.prog 25 = some (false) := by kernel_rfl
theorem ty_bytes25 : tyBytes Try.prog 25 = some (24) := by kernel_rfl
theorem ty_elem25 : sliceElem Try.prog 25 = some (50) := by kernel_rfl
theorem ty_zero25 : tyZero Try.prog 25 = some ([AC.nil]) := by kernel_rfl
theorem ty_size26 : tySize Try.prog 26 = some (1) := by kernel_rfl
theorem ty_agg26 : tyAgg Try.prog 26 = some (false) := by kernel_rfl
theorem ty_bytes26 : tyBytes Try.prog 26 = some (24) := by kernel_rfl
theorem ty_elem26 : sliceElem Try.prog 26 = some (3) := by kernel_rfl
theorem ty_zero26 : tyZero Try.prog 26 = some ([AC.nil]) := by kernel_rfl
theorem ty_size27 : tySize Try.prog 27 = some (1) := by kernel_rfl
theorem ty_agg27 : tyAgg Try.prog 27 = some (false) := by kernel_rfl
theorem ty_bytes27 : tyBytes Try.prog 27 = some (24) := by kernel_rfl
theorem ty_elem27 : sliceElem Try.prog 27 = some (58) := by kernel_rfl
theorem ty_zero27 : tyZero Try.prog 27 = some ([AC.nil]) := by kernel_rfl
theorem ty_size28 : tySize Try.prog 28 = some (9) := by kernel_rfl
theorem ty_agg28 : tyAgg Try.prog 28 = some (true) := by kernel_rfl
theorem ty_bytes28 : tyBytes Try.prog 28 = some (120) := by kernel_rfl
theorem ty_allsz28 : allSz Try.prog 28 = true := by kernel_rfl
theorem ty_noarr28 : arrElem Try.prog 28 = none := by kernel_rfl
theorem ty_zero28 : tyZero Try.prog 28 = some ([(AC.p (PV.v (Value.int IntKind.i64 0))), (AC.p (PV.v (Value.int IntKind.i64 0))), (AC.p (PV.v (Value.int IntKind.i64 0))), (AC.p (PV.v (Value.int IntKind.i64 0))), (AC.p (PV.v (Value.int IntKind.i64 0))), (AC.p (PV.v (Value.int IntKind.i64 0))), AC.nil, AC.nil, AC.nil]) := by kernel_rfl
theorem ty_fld28_0 : fldOf Try.prog 28 0 = some ((0, (6, true))) := by kernel_rfl
theorem ty_fld28_1 : fldOf Try.prog 28 1 = some ((6, (1, false))) := by kernel_rfl
theorem ty_fld28_2 : fldOf Try.prog 28 2 = some ((7, (1, false))) := by kernel_rfl
theorem ty_fld28_3 : fldOf Try.prog 28 3 = some ((8, (1, false))) := by kernel_rfl
theorem ty_size29 : tySize Try.prog 29 = some (9) := by kernel_rfl
theorem ty_agg29 : tyAgg Try.prog 29 = some (true) := by kernel_rfl
theorem ty_bytes29 : tyBytes Try.prog 29 = some (120) := by kernel_rfl
theorem ty_allsz29 : allSz Try.prog 29 = true := by kernel_rfl
theorem ty_noarr29 : arrElem Try.prog 29 = none := by kernel_rfl
theorem ty_zero29 : tyZero Try.prog 29 = some ([(AC.p (PV.v (Value.int IntKind.i64 0))), (AC.p (PV.v (Value.int IntKind.i64 0))), (AC.p (PV.v (Value.int IntKind.i64 0))), (AC.p (PV.v (Value.int IntKind.i64 0))), (AC.p (PV.v (Value.int IntKind.i64 0))), (AC.p (PV.v (Value.int IntKind.i64 0))), AC.nil, AC.nil, AC.nil]) := by kernel_rfl
theorem ty_fld29_0 : fldOf Try.prog 29 0 = some ((0, (6, true))) := by kernel_rfl
theorem ty_fld29_1 : fldOf Try.prog 29 1 = some ((6, (1, false))) := by kernel_rfl
theorem ty_fld29_2 : fldOf Try.prog 29 2 = some ((7, (1, false))) := by kernel_rfl
theorem ty_fld29_3 : fldOf Try.prog 29 3 = some ((8, (1, false))) := by kernel_rfl
theorem ty_size30 : tySize Try.prog 30 = some (1) := by kernel_rfl
theorem ty_agg30 : tyAgg Try.prog 30 = some (false) := by kernel_rfl
theorem ty_bytes30 : tyBytes Try.prog 30 = some (8) := by kernel_rfl
theorem ty_zero30 : tyZero Try.prog 30 = some ([(AC.p (PV.v Value.nilFunc))]) := by kernel_rfl
theorem ty_size31 : tySize Try.prog 31 = some (1) := by kernel_rfl
theorem ty_agg31 : tyAgg Try.prog 31 = some (false) := by kernel_rfl
theorem ty_bytes31 : tyBytes Try.prog 31 = some (8) := by kernel_rfl
theorem ty_zero31 : tyZero Try.prog 31 = some ([(AC.p (PV.v Value.nilFunc))]) := by kernel_rfl
theorem ty_size32 : tySize Try.prog 32 = some (1) := by kernel_rfl
theorem ty_agg32 : tyAgg Try.prog 32 = some (false) := by kernel_rfl
theorem ty_bytes32 : tyBytes Try.prog 32 = some (8) := by kernel_rfl
theorem ty_zero32 : tyZero Try.prog 32 = some ([(AC.p (PV.v (Value.int IntKind.i64 0)))]) := by kernel_rfl
theorem ty_size33 : tySize Try.prog 33 = some (1) := by kernel_rfl
theorem ty_agg33 : tyAgg Try.prog 33 = some (false) := by kernel_rfl
theorem ty_bytes33 : tyBytes Try.prog 33 = some (0) := by kernel_rfl
theorem ty_size34 : tySize Try.prog 34 = some (1) := by kernel_rfl
theorem ty_agg34 : tyAgg Try.prog 34 = some (false) := by kernel_rfl
theorem ty_bytes34 : tyBytes Try.prog 34 = some (8) := by kernel_rfl
theorem ty_zero34 : tyZero Try.prog 34 = some ([(AC.p (PV.v Value.nilFunc))]) := by kernel_rfl
theorem ty_size35 : tySize Try.prog 35 = some (1) := by kernel_rfl
theorem ty_agg35 : tyAgg Try.prog 35 = some (false) := by kernel_rfl
theorem ty_bytes35 : tyBytes Try.prog 35 = some (8) := by kernel_rfl
theorem ty_zero35 : tyZero Try.prog 35 = some ([(AC.p (PV.v Value.nilFunc))]) := by kernel_rfl
theorem ty_size36 : tySize Try.prog 36 = some (1) := by kernel_rfl
theorem ty_agg36 : tyAgg Try.prog 36 = some (false) := by kernel_rfl
theorem ty_bytes36 : tyBytes Try.prog 36 = some (0) := by kernel_rfl
theorem ty_size37 : tySize Try.prog 37 = some (1) := by kernel_rfl
theorem ty_agg37 : tyAgg Try.prog 37 = some (false) := by kernel_rfl
theorem ty_bytes37 : tyBytes Try.prog 37 = some (8) := by kernel_rfl
theorem ty_zero37 : tyZero Try.prog 37 = some ([(AC.p (PV.v Value.nilFunc))]) := by kernel_rfl
theorem ty_size38 : tySize Try.prog 38 = some (1) := by kernel_rfl
theorem ty_agg38 : tyAgg Try.prog 38 = some (false) := by kernel_rfl
theorem ty_bytes38 : tyBytes Try.prog 38 = some (8) := by kernel_rfl
theorem ty_zero38 : tyZero Try.prog 38 = some ([(AC.p (PV.v Value.nilFunc))]) := by kernel_rfl
theorem ty_size39 : tySize Try.prog 39 = some (1) := by kernel_rfl
theorem ty_agg39 : tyAgg Try.prog 39 = some (false) := by kernel_rfl
theorem ty_bytes39 : tyBytes Try.prog 39 = some (8) := by kernel_rfl
theorem ty_zero39 : tyZero Try.prog 39 = some ([(AC.p (PV.v Value.nilFunc))]) := by kernel_rfl
theorem ty_size40 : tySize Try.prog 40 = some (1) := by kernel_rfl
theorem ty_agg40 : tyAgg Try.prog 40 = some (false) := by kernel_rfl
theorem ty_bytes40 : tyBytes Try.prog 40 = some (24) := by kernel_rfl
theorem ty_elem40 : sliceElem Try.prog 40 = some (41) := by kernel_rfl
theorem ty_zero40 : tyZero Try.prog 40 = some ([AC.nil]) := by kernel_rfl
theorem ty_size41 : tySize Try.prog 41 = some (1) := by kernel_rfl
theorem ty_agg41 : tyAgg Try.prog 41 = some (false) := by kernel_rfl
theorem ty_bytes41 : tyBytes Try.prog 41 = some (2) := by kernel_rfl
theorem ty_zero41 : tyZero Try.prog 41 = some ([(AC.p (PV.v (Value.int IntKind.u16 0)))]) := by kernel_rfl
theorem ty_size42 : tySize Try.prog 42 = some (3) := by kernel_rfl
theorem ty_agg42 : tyAgg Try.prog 42 = some (true) := by kernel_rfl
theorem ty_bytes42 : tyBytes Try.prog 42 = some (24) := by kernel_rfl
theorem ty_elem42 : sliceElem Try.prog 42 = none := by kernel_rfl
theorem ty_arr42 : arrElem Try.prog 42 = some ((3, 3)) := by kernel_rfl
theorem ty_zero42 : tyZero Try.prog 42 = some ([(AC.p (PV.v (Value.int IntKind.i64 0))), (AC.p (PV.v (Value.int IntKind.i64 0))), (AC.p (PV.v (Value.int IntKind.i64 0)))]) := by kernel_rfl
theorem ty_size43 : tySize Try.prog 43 = some (1) := by kernel_rfl
theorem ty_agg43 : tyAgg Try.prog 43 = some (false) := by kernel_rfl
theorem ty_bytes43 : tyBytes Try.prog 43 = some (0) := by kernel_rfl
theorem ty_size44 : tySize Try.prog 44 = some (1) := by kernel_rfl
theorem ty_agg44 : tyAgg Try.prog 44 = some (false) := by kernel_rfl
theorem ty_bytes44 : tyBytes Try.prog 44 = some (8) := by kernel_rfl
theorem ty_zero44 : tyZero Try.prog 44 = some ([(AC.p (PV.v Value.nilFunc))]) := by kernel_rfl
theorem ty_size45 : tySize Try.prog 45 = some (1) := by kernel_rfl
theorem ty_agg45 : tyAgg Try.prog 45 = some (false) := by kernel_rfl
theorem ty_bytes45 : tyBytes Try.prog 45 = some (0) := by kernel_rfl
theorem ty_size46 : tySize Try.prog 46 = some (1) := by kernel_rfl
theorem ty_agg46 : tyAgg Try.prog 46 = some (false) := by kernel_rfl
theorem ty_bytes46 : tyBytes Try.prog 46 = some (8) := by kernel_rfl
theorem ty_zero46 : tyZero Try.prog 46 = some ([(AC.p (PV.v Value.nilFunc))]) := by kernel_rfl
theorem ty_size47 : tySize Try.prog 47 = some (1) := by kernel_rfl
theorem ty_agg47 : tyAgg Try.prog 47 = some (false) := by kernel_rfl
theorem ty_bytes47 : tyBytes Try.prog 47 = some (8) := by kernel_rfl
theorem ty_zero47 : tyZero Try.prog 47 = some ([(AC.p (PV.v Value.nilFunc))]) := by kernel_rfl
theorem ty_size48 : tySize Try.prog 48 = some (1) := by kernel_rfl
theorem ty_agg48 : tyAgg Try.prog 48 = some (false) := by kernel_rfl
theorem ty_bytes48 : tyBytes Try.prog 48 = some (8) := by kernel_rfl
theorem ty_zero48 : tyZero Try.prog 48 = some ([(AC.p (PV.v Value.nilFunc))]) := by kernel_rfl
theorem ty_size49 : tySize Try.prog 49 = some (2) := by kernel_rfl
theorem ty_agg49 : tyAgg Try.prog 49 = some (true) := by kernel_rfl
theorem ty_bytes49 : tyBytes Try.prog 49 = some (16) := by kernel_rfl
theorem ty_allsz49 : allSz Try.prog 49 = true := by kernel_rfl
theorem ty_noarr49 : arrElem Try.prog 49 = none := by kernel_rfl
theorem ty_zero49 : tyZero Try.prog 49 = some ([(AC.p (PV.v (Value.int IntKind.i64 0))), (AC.p (PV.v (Value.int IntKind.i64 0)))]) := by kernel_rfl
theorem ty_fld49_0 : fldOf Try.prog 49 0 = some ((0, (1, false))) := by kernel_rfl
theorem ty_fld49_1 : fldOf Try.prog 49 1 = some ((1, (1, false))) := by kernel_rfl
theorem ty_size50 : tySize Try.prog 50 = some (2) := by kernel_rfl
theorem ty_agg50 : tyAgg Try.prog 50 = some (true) := by kernel_rfl
theorem ty_bytes50 : tyBytes Try.prog 50 = some (16) := by kernel_rfl
theorem ty_allsz50 : allSz Try.prog 50 = true := by kernel_rfl
theorem ty_noarr50 : arrElem Try.prog 50 = none := by kernel_rfl
theorem ty_zero50 : tyZero Try.prog 50 = some ([(AC.p (PV.v (Value.int IntKind.i64 0))), (AC.p (PV.v (Value.int IntKind.i64 0)))]) := by kernel_rfl
theorem ty_fld50_0 : fldOf Try.prog 50 0 = some ((0, (1, false))) := by kernel_rfl
theorem ty_fld50_1 : fldOf Try.prog 50 1 = some ((1, (1, false))) := by kernel_rfl
theorem ty_size51 : tySize Try.prog 51 = some (1) := by kernel_rfl
theorem ty_agg51 : tyAgg Try.prog 51 = some (false) := by kernel_rfl
theorem ty_bytes51 : tyBytes Try.prog 51 = some (8) := by kernel_rfl
theorem ty_zero51 : tyZero Try.prog 51 = some ([(AC.p (PV.v Value.nilFunc))]) := by kernel_rfl
theorem ty_size52 : tySize Try.prog 52 = some (1) := by kernel_rfl
theorem ty_agg52 : tyAgg Try.prog 52 = some (false) := by kernel_rfl
theorem ty_bytes52 : tyBytes Try.prog 52 = some (8) := by kernel_rfl
theorem ty_zero52 : tyZero Try.prog 52 = some ([(AC.p (PV.v Value.nilFunc))]) := by kernel_rfl
theorem ty_size53 : tySize Try.prog 53 = some (1) := by kernel_rfl
theorem ty_agg53 : tyAgg Try.prog 53 = some (false) := by kernel_rfl
theorem ty_bytes53 : tyBytes Try.prog 53 = some (8) := by kernel_rfl
theorem ty_zero53 : tyZero Try.prog 53 = some ([(AC.p (PV.v Value.nilFunc))]) := by kernel_rfl
theorem ty_size54 : tySize Try.prog 54 = some (1) := by kernel_rfl
theorem ty_agg54 : tyAgg Try.prog 54 = some (false) := by kernel_rfl
theorem ty_bytes54 : tyBytes Try.prog 54 = some (8) := by kernel_rfl
theorem ty_zero54 : tyZero Try.prog 54 = some ([(AC.p (PV.v Value.nilFunc))]) := by kernel_rfl
theorem ty_size55 : tySize Try.prog 55 = some (1) := by kernel_rfl
theorem ty_agg55 : tyAgg Try.prog 55 = some (false) := by kernel_rfl
theorem ty_bytes55 : tyBytes Try.prog 55 = some (8) := by kernel_rfl
theorem ty_zero55 : tyZero Try.prog 55 = some ([(AC.p (PV.v Value.nilFunc))]) := by kernel_rfl
theorem ty_size56 : tySize Try.prog 56 = some (1) := by kernel_rfl
theorem ty_agg56 : tyAgg Try.prog 56 = some (false) := by kernel_rfl
theorem ty_bytes56 : tyBytes Try.prog 56 = some (8) := by kernel_rfl
theorem ty_zero56 : tyZero Try.prog 56 = some ([(AC.p (PV.v Value.nilFunc))]) := by kernel_rfl
theorem ty_size57 : tySize Try.prog 57 = some (3) := by kernel_rfl
theorem ty_agg57 : tyAgg Try.prog 57 = some (true) := by kernel_rfl
theorem ty_bytes57 : tyBytes Try.prog 57 = some (24) := by kernel_rfl
theorem ty_allsz57 : allSz Try.prog 57 = true := by kernel_rfl
theorem ty_noarr57 : arrElem Try.prog 57 = none := by kernel_rfl
theorem ty_zero57 : tyZero Try.prog 57 = some ([(AC.p (PV.v (Value.int IntKind.i64 0))), (AC.p (PV.v (Value.int IntKind.i64 0))), (AC.p (PV.v (Value.int IntKind.i64 0)))]) := by kernel_rfl
theorem ty_fld57_0 : fldOf Try.prog 57 0 = some ((0, (1, false))) := by kernel_rfl
theorem ty_fld57_1 : fldOf Try.prog 57 1 = some ((1, (2, true))) := by kernel_rfl
theorem ty_size58 : tySize Try.prog 58 = some (3) := by kernel_rfl
theorem ty_agg58 : tyAgg Try.prog 58 = some (true) := by kernel_rfl
theorem ty_bytes58 : tyBytes Try.prog 58 = some (24) := by kernel_rfl
theorem ty_allsz58 : allSz Try.prog 58 = true := by kernel_rfl
theorem ty_noarr58 : arrElem Try.prog 58 = none := by kernel_rfl
theorem ty_zero58 : tyZero Try.prog 58 = some ([(AC.p (PV.v (Value.int IntKind.i64 0))), (AC.p (PV.v (Value.int IntKind.i64 0))), (AC.p (PV.v (Value.int IntKind.i64 0)))]) := by kernel_rfl
theorem ty_fld58_0 : fldOf Try.prog 58 0 = some ((0, (1, false))) := by kernel_rfl
theorem ty_fld58_1 : fldOf Try.prog 58 1 = some ((1, (2, true))) := by kernel_rfl
theorem ty_size59 : tySize Try.prog 59 = some (1) := by kernel_rfl
theorem ty_agg59 : tyAgg Try.prog 59 = some (false) := by kernel_rfl
theorem ty_bytes59 : tyBytes Try.prog 59 = some (8) := by kernel_rfl
theorem ty_zero59 : tyZero Try.prog 59 = some ([(AC.p (PV.v Value.nilFunc))]) := by kernel_rfl
theorem ty_size60 : tySize Try.prog 60 = some (1) := by kernel_rfl
theorem ty_agg60 : tyAgg Try.prog 60 = some (false) := by kernel_rfl
theorem ty_bytes60 : tyBytes Try.prog 60 = some (8) := by kernel_rfl
theorem ty_zero60 : tyZero Try.prog 60 = some ([(AC.p (PV.v Value.nilFunc))]) := by kernel_rfl
theorem ty_size61 : tySize Try.prog 61 = some (1) := by kernel_rfl
theorem ty_agg61 : tyAgg Try.prog 61 = some (false) := by kernel_rfl
theorem ty_bytes61 : tyBytes Try.prog 61 = some (8) := by kernel_rfl
theorem ty_zero61 : tyZero Try.prog 61 = some ([(AC.p (PV.v Value.nilFunc))]) := by kernel_rfl
theorem ty_size62 : tySize Try.prog 62 = some (1) := by kernel_rfl
theorem ty_agg62 : tyAgg Try.prog 62 = some (false) := by kernel_rfl
theorem ty_bytes62 : tyBytes Try.prog 62 = some (8) := by kernel_rfl
theorem ty_zero62 : tyZero Try.prog 62 = some ([(AC.p (PV.v (Value.pointer none)))]) := by kernel_rfl
theorem ty_size63 : tySize Try.prog 63 = some (1) := by kernel_rfl
theorem ty_agg63 : tyAgg Try.prog 63 = some (false) := by kernel_rfl
theorem ty_bytes63 : tyBytes Try.prog 63 = some (8) := by kernel_rfl
theorem ty_zero63 : tyZero Try.prog 63 = some ([(AC.p (PV.v Value.nilFunc))]) := by kernel_rfl
theorem ty_size64 : tySize Try.prog 64 = some (1) := by kernel_rfl
theorem ty_agg64 : tyAgg Try.prog 64 = some (false) := by kernel_rfl
theorem ty_bytes64 : tyBytes Try.prog 64 = some (24) := by kernel_rfl
theorem ty_elem64 : sliceElem Try.prog 64 = some (29) := by kernel_rfl
theorem ty_zero64 : tyZero Try.prog 64 = some ([AC.nil]) := by kernel_rfl
theorem ty_size65 : tySize Try.prog 65 = some (1) := by kernel_rfl
theorem ty_agg65 : tyAgg Try.prog 65 = some (false) := by kernel_rfl
theorem ty_bytes65 : tyBytes Try.prog 65 = some (8) := by kernel_rfl
theorem ty_zero65 : tyZero Try.prog 65 = some ([(AC.p (PV.v Value.nilFunc))]) := by kernel_rfl
theorem ty_size66 : tySize Try.prog 66 = some (1) := by kernel_rfl
theorem ty_agg66 : tyAgg Try.prog 66 = some (false) := by kernel_rfl
theorem ty_bytes66 : tyBytes Try.prog 66 = some (8) := by kernel_rfl
theorem ty_zero66 : tyZero Try.prog 66 = some ([(AC.p (PV.v Value.nilFunc))]) := by kernel_rfl
theorem ty_size67 : tySize Try.prog 67 = some (1) := by kernel_rfl
theorem ty_agg67 : tyAgg Try.prog 67 = some (false) := by kernel_rfl
theorem ty_bytes67 : tyBytes Try.prog 67 = some (8) := by kernel_rfl
theorem ty_zero67 : tyZero Try.prog 67 = some ([(AC.p (PV.v Value.nilFunc))]) := by kernel_rfl
theorem ty_size68 : tySize Try.prog 68 = some (1) := by kernel_rfl
theorem ty_agg68 : tyAgg Try.prog 68 = some (false) := by kernel_rfl
theorem ty_bytes68 : tyBytes Try.prog 68 = some (8) := by kernel_rfl
theorem ty_zero68 : tyZero Try.prog 68 = some ([(AC.p (PV.v Value.nilFunc))]) := by kernel_rfl
theorem ty_size69 : tySize Try.prog 69 = some (1) := by kernel_rfl
theorem ty_agg69 : tyAgg Try.prog 69 = some (false) := by kernel_rfl
theorem ty_bytes69 : tyBytes Try.prog 69 = some (8) := by kernel_rfl
theorem ty_zero69 : tyZero Try.prog 69 = some ([(AC.p (PV.v (Value.pointer none)))]) := by kernel_rfl
theorem ty_size70 : tySize Try.prog 70 = some (1) := by kernel_rfl
theorem ty_agg70 : tyAgg Try.prog 70 = some (false) := by kernel_rfl
theorem ty_bytes70 : tyBytes Try.prog 70 = some (8) := by kernel_rfl
theorem ty_zero70 : tyZero Try.prog 70 = some ([(AC.p (PV.v (Value.pointer none)))]) := by kernel_rfl
theorem ty_size71 : tySize Try.prog 71 = some (1) := by kernel_rfl
theorem ty_agg71 : tyAgg Try.prog 71 = some (false) := by kernel_rfl
theorem ty_bytes71 : tyBytes Try.prog 71 = some (8) := by kernel_rfl
theorem ty_zero71 : tyZero Try.prog 71 = some ([(AC.p (PV.v Value.nilFunc))]) := by kernel_rfl
theorem ty_size72 : tySize Try.prog 72 = some (1) := by kernel_rfl
theorem ty_agg72 : tyAgg Try.prog 72 = some (false) := by kernel_rfl
theorem ty_bytes72 : tyBytes Try.prog 72 = some (8) := by kernel_rfl
theorem ty_zero72 : tyZero Try.prog 72 = some ([(AC.p (PV.v Value.nilFunc))]) := by kernel_rfl
theorem ty_size73 : tySize Try.prog 73 = some (1) := by kernel_rfl
theorem ty_agg73 : tyAgg Try.prog 73 = some (false) := by kernel_rfl
theorem ty_bytes73 : tyBytes Try.prog 73 = some (8) := by kernel_rfl
theorem ty_zero73 : tyZero Try.prog 73 = some ([(AC.p (PV.v Value.nilFunc))]) := by kernel_rfl
theorem ty_size74 : tySize Try.prog 74 = some (1) := by kernel_rfl
theorem ty_agg74 : tyAgg Try.prog 74 = some (true) := by kernel_rfl
theorem ty_bytes74 : tyBytes Try.prog 74 = some (8) := by kernel_rfl
theorem ty_allsz74 : allSz Try.prog 74 = true := by kernel_rfl
theorem ty_noarr74 : arrElem Try.prog 74 = none := by kernel_rfl
theorem ty_zero74 : tyZero Try.prog 74 = some ([(AC.p (PV.v (Value.int IntKind.i64 0)))]) := by kernel_rfl
theorem ty_fld74_0 : fldOf Try.prog 74 0 = some ((0, (1, false))) := by kernel_rfl
theorem ty_size75 : tySize Try.prog 75 = some (1) := by kernel_rfl
theorem ty_agg75 : tyAgg Try.prog 75 = some (true) := by kernel_rfl
theorem ty_bytes75 : tyBytes Try.prog 75 = some (8) := by kernel_rfl
theorem ty_allsz75 : allSz Try.prog 75 = true := by kernel_rfl
theorem ty_noarr75 : arrElem Try.prog 75 = none := by kernel_rfl
theorem ty_zero75 : tyZero Try.prog 75 = some ([(AC.p (PV.v (Value.int IntKind.i64 0)))]) := by kernel_rfl
theorem ty_fld75_0 : fldOf Try.prog 75 0 = some ((0, (1, false))) := by kernel_rfl
theorem ty_size76 : tySize Try.prog 76 = some (1) := by kernel_rfl
theorem ty_agg76 : tyAgg Try.prog 76 = some (false) := by kernel_rfl
theorem ty_bytes76 : tyBytes Try.prog 76 = some (24) := by kernel_rfl
theorem ty_elem76 : sliceElem Try.prog 76 = some (82) := by kernel_rfl
theorem ty_zero76 : tyZero Try.prog 76 = some ([AC.nil]) := by kernel_rfl
theorem ty_size77 : tySize Try.prog 77 = some (1) := by kernel_rfl
theorem ty_agg77 : tyAgg Try.prog 77 = some (false) := by kernel_rfl
theorem ty_bytes77 : tyBytes Try.prog 77 = some (0) := by kernel_rfl
theorem ty_size78 : tySize Try.prog 78 = some (1) := by kernel_rfl
theorem ty_agg78 : tyAgg Try.prog 78 = some (false) := by kernel_rfl
theorem ty_bytes78 : tyBytes Try.prog 78 = some (8) := by kernel_rfl
theorem ty_zero78 : tyZero Try.prog 78 = some ([(AC.p (PV.v Value.nilFunc))]) := by kernel_rfl
theorem ty_size79 : tySize Try.prog 79 = some (2) := by kernel_rfl
theorem ty_agg79 : tyAgg Try.prog 79 = some (true) := by kernel_rfl
theorem ty_bytes79 : tyBytes Try.prog 79 = some (48) := by kernel_rfl
theorem ty_allsz79 : allSz Try.prog 79 = true := by kernel_rfl
theorem ty_noarr79 : arrElem Try.prog 79 = none := by kernel_rfl
theorem ty_zero79 : tyZero Try.prog 79 = some ([AC.nil, AC.nil]) := by kernel_rfl
theorem ty_fld79_0 : fldOf Try.prog 79 0 = some ((0, (1, false))) := by kernel_rfl
theorem ty_fld79_1 : fldOf Try.prog 79 1 = some ((1, (1, false))) := by kernel_rfl
theorem ty_size80 : tySize Try.prog 80 = some (2) := by kernel_rfl
theorem ty_agg80 : tyAgg Try.prog 80 = some (true) := by kernel_rfl
theorem ty_bytes80 : tyBytes Try.prog 80 = some (48) := by kernel_rfl
theorem ty_allsz80 : allSz Try.prog 80 = true := by kernel_rfl
theorem ty_noarr80 : arrElem Try.prog 80 = none := by kernel_rfl
theorem ty_zero80 : tyZero Try.prog 80 = some ([AC.nil, AC.nil]) := by kernel_rfl
theorem ty_fld80_0 : fldOf Try.prog 80 0 = some ((0, (1, false))) := by kernel_rfl
theorem ty_fld80_1 : fldOf Try.prog 80 1 = some ((1, (1, false))) := by kernel_rfl
theorem ty_size81 : tySize Try.prog 81 = some (3) := by kernel_rfl
theorem ty_agg81 : tyAgg Try.prog 81 = some (true) := by kernel_rfl
theorem ty_bytes81 : tyBytes Try.prog 81 = some (72) := by kernel_rfl
theorem ty_allsz81 : allSz Try.prog 81 = true := by kernel_rfl
theorem ty_noarr81 : arrElem Try.prog 81 = none := by kernel_rfl
theorem ty_zero81 : tyZero Try.prog 81 = some ([AC.nil, AC.nil, AC.nil]) := by kernel_rfl
theorem ty_fld81_0 : fldOf Try.prog 81 0 = some ((0, (1, false))) := by kernel_rfl
theorem ty_fld81_1 : fldOf Try.prog 81 1 = some ((1, (2, true))) := by kernel_rfl
theorem ty_size82 : tySize Try.prog 82 = some (3) := by kernel_rfl
theorem ty_agg82 : tyAgg Try.prog 82 = some (true) := by kernel_rfl
theorem ty_bytes82 : tyBytes Try.prog 82 = some (72) := by kernel_rfl
theorem ty_allsz82 : allSz Try.prog 82 = true := by kernel_rfl
theorem ty_noarr82 : arrElem Try.prog 82 = none := by kernel_rfl
theorem ty_zero82 : tyZero Try.prog 82 = some ([AC.nil, AC.nil, AC.nil]) := by kernel_rfl
theorem ty_fld82_0 : fldOf Try.prog 82 0 = some ((0, (1, false))) := by kernel_rfl
theorem ty_fld82_1 : fldOf Try.prog 82 1 = some ((1, (2, true))) := by kernel_rfl
theorem ty_size83 : tySize Try.prog 83 = some (1) := by kernel_rfl
theorem ty_agg83 : tyAgg Try.prog 83 = some (false) := by kernel_rfl
theorem ty_bytes83 : tyBytes Try.prog 83 = some (8) := by kernel_rfl
theorem ty_zero83 : tyZero Try.prog 83 = some ([(AC.p (PV.v Value.nilFunc))]) := by kernel_rfl
theorem ty_size84 : tySize Try.prog 84 = some (1) := by kernel_rfl
theorem ty_agg84 : tyAgg Try.prog 84 = some (true) := by kernel_rfl
theorem ty_bytes84 : tyBytes Try.prog 84 = some (8) := by kernel_rfl
theorem ty_allsz84 : allSz Try.prog 84 = true := by kernel_rfl
theorem ty_noarr84 : arrElem Try.prog 84 = none := by kernel_rfl
theorem ty_zero84 : tyZero Try.prog 84 = some ([(AC.p (PV.v (Value.int IntKind.i64 0)))]) := by kernel_rfl
theorem ty_fld84_0 : fldOf Try.prog 84 0 = some ((0, (1, false))) := by kernel_rfl
theorem ty_size85 : tySize Try.prog 85 = some (1) := by kernel_rfl
theorem ty_agg85 : tyAgg Try.prog 85 = some (true) := by kernel_rfl
theorem ty_bytes85 : tyBytes Try.prog 85 = some (8) := by kernel_rfl
theorem ty_allsz85 : allSz Try.prog 85 = true := by kernel_rfl
theorem ty_noarr85 : arrElem Try.prog 85 = none := by kernel_rfl
theorem ty_zero85 : tyZero Try.prog 85 = some ([(AC.p (PV.v (Value.int IntKind.i64 0)))]) := by kernel_rfl
theorem ty_fld85_0 : fldOf Try.prog 85 0 = some ((0, (1, false))) := by kernel_rfl
theorem ty_size86 : tySize Try.prog 86 = some (1) := by kernel_rfl
theorem ty_agg86 : tyAgg Try.prog 86 = some (false) := by kernel_rfl
theorem ty_bytes86 : tyBytes Try.prog 86 = some (8) := by kernel_rfl
theorem ty_zero86 : tyZero Try.prog 86 = some ([(AC.p (PV.v Value.nilFunc))]) := by kernel_rfl
theorem ty_size87 : tySize Try.prog 87 = some (1) := by kernel_rfl
theorem ty_agg87 : tyAgg Try.prog 87 = some (false) := by kernel_rfl
theorem ty_bytes87 : tyBytes Try.prog 87 = some (8) := by kernel_rfl
theorem ty_zero87 : tyZero Try.prog 87 = some ([(AC.p (PV.v Value.nilFunc))]) := by kernel_rfl
theorem ty_size88 : tySize Try.prog 88 = some (3) := by kernel_rfl
theorem ty_agg88 : tyAgg Try.prog 88 = some (true) := by kernel_rfl
theorem ty_bytes88 : tyBytes Try.prog 88 = some (24) := by kernel_rfl
theorem ty_elem88 : sliceElem Try.prog 88 = none := by kernel_rfl
theorem ty_arr88 : arrElem Try.prog 88 = some ((3, 3)) := by kernel_rfl
theorem ty_zero88 : tyZero Try.prog 88 = some ([(AC.p (PV.v (Value.int IntKind.i64 0))), (AC.p (PV.v (Value.int IntKind.i64 0))), (AC.p (PV.v (Value.int IntKind.i64 0)))]) := by kernel_rfl
theorem ty_size89 : tySize Try.prog 89 = some (1) := by kernel_rfl
theorem ty_agg89 : tyAgg Try.prog 89 = some (false) := by kernel_rfl
theorem ty_bytes89 : tyBytes Try.prog 89 = some (8) := by kernel_rfl
theorem ty_zero89 : tyZero Try.prog 89 = some ([(AC.p (PV.v Value.nilFunc))]) := by kernel_rfl
theorem ty_size90 : tySize Try.prog 90 = some (1) := by kernel_rfl
theorem ty_agg90 : tyAgg Try.prog 90 = some (true) := by kernel_rfl
theorem ty_bytes90 : tyBytes Try.prog 90 = some (8) := by kernel_rfl
theorem ty_allsz90 : allSz Try.prog 90 = true := by kernel_rfl
theorem ty_noarr90 : arrElem Try.prog 90 = none := by kernel_rfl
theorem ty_zero90 : tyZero Try.prog 90 = some ([(AC.p (PV.v (Value.int IntKind.i64 0)))]) := by kernel_rfl
theorem ty_fld90_0 : fldOf Try.prog 90 0 = some ((0, (1, false))) := by kernel_rfl
theorem ty_size91 : tySize Try.prog 91 = some (1) := by kernel_rfl
theorem ty_agg91 : tyAgg Try.prog 91 = some (true) := by kernel_rfl
theorem ty_bytes91 : tyBytes Try.prog 91 = some (8) := by kernel_rfl
theorem ty_allsz91 : allSz Try.prog 91 = true := by kernel_rfl
theorem ty_noarr91 : arrElem Try.prog 91 = none := by kernel_rfl
theorem ty_zero91 : tyZero Try.prog 91 = some ([(AC.p (PV.v (Value.int IntKind.i64 0)))]) := by kernel_rfl
theorem ty_fld91_0 : fldOf Try.prog 91 0 = some ((0, (1, false))) := by kernel_rfl
theorem ty_size92 : tySize Try.prog 92 = some (1) := by kernel_rfl
theorem ty_agg92 : tyAgg Try.prog 92 = some (false) := by kernel_rfl
theorem ty_bytes92 : tyBytes Try.prog 92 = some (0) := by kernel_rfl
theorem ty_size93 : tySize Try.prog 93 = some (1) := by kernel_rfl
theorem ty_agg93 : tyAgg Try.prog 93 = some (false) := by kernel_rfl
theorem ty_bytes93 : tyBytes Try.prog 93 = some (8) := by kernel_rfl
theorem ty_zero93 : tyZero Try.prog 93 = some ([(AC.p (PV.v Value.nilFunc))]) := by kernel_rfl
theorem ty_size94 : tySize Try.prog 94 = some (1) := by kernel_rfl
theorem ty_agg94 : tyAgg Try.prog 94 = some (true) := by kernel_rfl
theorem ty_bytes94 : tyBytes Try.prog 94 = some (8) := by kernel_rfl
theorem ty_allsz94 : allSz Try.prog 94 = true := by kernel_rfl
theorem ty_noarr94 : arrElem Try.prog 94 = none := by kernel_rfl
theorem ty_zero94 : tyZero Try.prog 94 = some ([(AC.p (PV.v (Value.int IntKind.i64 0)))]) := by kernel_rfl
theorem ty_fld94_0 : fldOf Try.prog 94 0 = some ((0, (1, true))) := by kernel_rfl
theorem ty_size95 : tySize Try.prog 95 = some (1) := by kernel_rfl
theorem ty_agg95 : tyAgg Try.prog 95 = some (true) := by kernel_rfl
theorem ty_bytes95 : tyBytes Try.prog 95 = some (8) := by kernel_rfl
theorem ty_allsz95 : allSz Try.prog 95 = true := by kernel_rfl
theorem ty_noarr95 : arrElem Try.prog 95 = none := by kernel_rfl
theorem ty_zero95 : tyZero Try.prog 95 = some ([(AC.p (PV.v (Value.int IntKind.i64 0)))]) := by kernel_rfl
theorem ty_fld95_0 : fldOf Try.prog 95 0 = some ((0, (1, true))) := by kernel_rfl
theorem ty_size96 : tySize Try.prog 96 = some (1) := by kernel_rfl
theorem ty_agg96 : tyAgg Try.prog 96 = some (true) := by kernel_rfl
theorem ty_bytes96 : tyBytes Try.prog 96 = some (8) := by kernel_rfl
theorem ty_allsz96 : allSz Try.prog 96 = true := by kernel_rfl
theorem ty_noarr96 : arrElem Try.prog 96 = none := by kernel_rfl
theorem ty_zero96 : tyZero Try.prog 96 = some ([(AC.p (PV.v (Value.int IntKind.i64 0)))]) := by kernel_rfl
theorem ty_fld96_0 : fldOf Try.prog 96 0 = some ((0, (1, true))) := by kernel_rfl
theorem ty_size97 : tySize Try.prog 97 = some (1) := by kernel_rfl
theorem ty_agg97 : tyAgg Try.prog 97 = some (false) := by kernel_rfl
theorem ty_bytes97 : tyBytes Try.prog 97 = some (8) := by kernel_rfl
theorem ty_zero97 : tyZero Try.prog 97 = some ([(AC.p (PV.v Value.nilFunc))]) := by kernel_rfl
theorem ty_size98 : tySize Try.prog 98 = some (1) := by kernel_rfl
theorem ty_agg98 : tyAgg Try.prog 98 = some (false) := by kernel_rfl
theorem ty_bytes98 : tyBytes Try.prog 98 = some (8) := by kernel_rfl
theorem ty_zero98 : tyZero Try.prog 98 = some ([(AC.p (PV.v (Value.int IntKind.u64 0)))]) := by kernel_rfl
theorem ty_size99 : tySize Try.prog 99 = some (1) := by kernel_rfl
theorem ty_agg99 : tyAgg Try.prog 99 = some (false) := by kernel_rfl
theorem ty_bytes99 : tyBytes Try.prog 99 = some (8) := by kernel_rfl
theorem ty_zero99 : tyZero Try.prog 99 = some ([(AC.p (PV.v Value.nilFunc))]) := by kernel_rfl
theorem ty_size100 : tySize Try.prog 100 = some (1) := by kernel_rfl
theorem ty_agg100 : tyAgg Try.prog 100 = some (false) := by kernel_rfl
theorem ty_bytes100 : tyBytes Try.prog 100 = some (8) := by kernel_rfl
theorem ty_zero100 : tyZero Try.prog 100 = some ([(AC.p (PV.v Value.nilFunc))]) := by kernel_rfl
theorem ty_size101 : tySize Try.prog 101 = some (1) := by kernel_rfl
theorem ty_agg101 : tyAgg Try.prog 101 = some (false) := by kernel_rfl
theorem ty_bytes101 : tyBytes Try.prog 101 = some (8) := by kernel_rfl
theorem ty_zero101 : tyZero Try.prog 101 = some ([(AC.p (PV.v Value.nilFunc))]) := by kernel_rfl
theorem ty_size102 : tySize Try.prog 102 = some (1) := by kernel_rfl
theorem ty_agg102 : tyAgg Try.prog 102 = some (false) := by kernel_rfl
theorem ty_bytes102 : tyBytes Try.prog 102 = some (8) := by kernel_rfl
theorem ty_zero102 : tyZero Try.prog 102 = some ([(AC.p (PV.v Value.nilFunc))]) := by kernel_rfl
theorem ty_size103 : tySize Try.prog 103 = some (1) := by kernel_rfl
theorem ty_agg103 : tyAgg Try.prog 103 = some (false) := by kernel_rfl
theorem ty_bytes103 : tyBytes Try.prog 103 = some (8) := by kernel_rfl
theorem ty_zero103 : tyZero Try.prog 103 = some ([(AC.p (PV.v Value.nilFunc))]) := by kernel_rfl
theorem ty_size104 : tySize Try.prog 104 = some (1) := by kernel_rfl
theorem ty_agg104 : tyAgg Try.prog 104 = some (false) := by kernel_rfl
theorem ty_bytes104 : tyBytes Try.prog 104 = some (8) := by kernel_rfl
theorem ty_zero104 : tyZero Try.prog 104 = some ([(AC.p (PV.v Value.nilFunc))]) := by kernel_rfl
attribute [go_sem] ty_size0 ty_agg0 ty_bytes0 ty_size1 ty_agg1 ty_bytes1 ty_zero1 ty_size2 ty_agg2 ty_bytes2 ty_zero2 ty_size3 ty_agg3 ty_bytes3 ty_zero3 ty_size4 ty_agg4 ty_bytes4 ty_zero4 ty_size5 ty_agg5 ty_bytes5 ty_zero5 ty_size6 ty_agg6 ty_bytes6 ty_zero6 ty_size7 ty_agg7 ty_bytes7 ty_allsz7 ty_noarr7 ty_zero7 ty_fld7_0 ty_fld7_1 ty_fld7_2 ty_fld7_3 ty_size8 ty_agg8 ty_bytes8 ty_allsz8 ty_noarr8 ty_zero8 ty_fld8_0 ty_fld8_1 ty_fld8_2 ty_fld8_3 ty_size9 ty_agg9 ty_bytes9 ty_size10 ty_agg10 ty_bytes10 ty_size11 ty_agg11 ty_bytes11 ty_size12 ty_agg12 ty_bytes12 ty_zero12 ty_size13 ty_agg13 ty_bytes13 ty_allsz13 ty_noarr13 ty_fld13_0 ty_fld13_1 ty_size14 ty_agg14 ty_bytes14 ty_allsz14 ty_noarr14 ty_fld14_0 ty_fld14_1 ty_size15 ty_agg15 ty_bytes15 ty_zero15 ty_size16 ty_agg16 ty_bytes16 ty_zero16 ty_size17 ty_agg17 ty_bytes17 ty_zero17 ty_size18 ty_agg18 ty_bytes18 ty_allsz18 ty_noarr18 ty_zero18 ty_fld18_0 ty_size19 ty_agg19 ty_bytes19 ty_allsz19 ty_noarr19 ty_zero19 ty_fld19_0 ty_size20 ty_agg20 ty_bytes20 ty_zero20 ty_size21 ty_agg21 ty_bytes21 ty_zero21 ty_size22 ty_agg22 ty_bytes22 ty_allsz22 ty_noarr22 ty_zero22 ty_fld22_0 ty_fld22_1 ty_size23 ty_agg23 ty_bytes23 ty_allsz23 ty_noarr23 ty_zero23 ty_fld23_0 ty_fld23_1 ty_size24 ty_agg24 ty_bytes24 ty_elem24 ty_arr24 ty_zero24 ty_size25 ty_agg25 ty_bytes25 ty_elem25 ty_zero25 ty_size26 ty_agg26 ty_bytes26 ty_elem26 ty_zero26 ty_size27 ty_agg27 ty_bytes27 ty_elem27 ty_zero27 ty_size28 ty_agg28 ty_bytes28 ty_allsz28 ty_noarr28 ty_zero28 ty_fld28_0 ty_fld28_1 ty_fld28_2 ty_fld28_3 ty_size29 ty_agg29 ty_bytes29 ty_allsz29 ty_noarr29 ty_zero29 ty_fld29_0 ty_fld29_1 ty_fld29_2 ty_fld29_3 ty_size30 ty_agg30 ty_bytes30 ty_zero30 ty_size31 ty_agg31 ty_bytes31 ty_zero31 ty_size32 ty_agg32 ty_bytes32 ty_zero32 ty_size33 ty_agg33 ty_bytes33 ty_size34 ty_agg34 ty_bytes34 ty_zero34 ty_size35 ty_agg35 ty_bytes35 ty_zero35 ty_size36 ty_agg36 ty_bytes36 ty_size37 ty_agg37 ty_bytes37 ty_zero37 ty_size38 ty_agg38 ty_bytes38 ty_zero38 ty_size39 ty_agg39 ty_bytes39 ty_zero39 ty_size40 ty_agg40 ty_bytes40 ty_elem40 ty_zero40 ty_size41 ty_agg41 ty_bytes41 ty_zero41 ty_size42 ty_agg42 ty_bytes42 ty_elem42 ty_arr42 ty_zero42 ty_size43 ty_agg43 ty_bytes43 ty_size44 ty_agg44 ty_bytes44 ty_zero44 ty_size45 ty_agg45 ty_bytes45 ty_size46 ty_agg46 ty_bytes46 ty_zero46 ty_size47 ty_agg47 ty_bytes47 ty_zero47 ty_size48 ty_agg48 ty_bytes48 ty_zero48 ty_size49 ty_agg49 ty_bytes49 ty_allsz49 ty_noarr49 ty_zero49 ty_fld49_0 ty_fld49_1 ty_size50 ty_agg50 ty_bytes50 ty_allsz50 ty_noarr50 ty_zero50 ty_fld50_0 ty_fld50_1 ty_size51 ty_agg51 ty_bytes51 ty_zero51 ty_size52 ty_agg52 ty_bytes52 ty_zero52 ty_size53 ty_agg53 ty_bytes53 ty_zero53 ty_size54 ty_agg54 ty_bytes54 ty_zero54 ty_size55 ty_agg55 ty_bytes55 ty_zero55 ty_size56 ty_agg56 ty_bytes56 ty_zero56 ty_size57 ty_agg57 ty_bytes57 ty_allsz57 ty_noarr57 ty_zero57 ty_fld57_0 ty_fld57_1 ty_size58 ty_agg58 ty_bytes58 ty_allsz58 ty_noarr58 ty_zero58 ty_fld58_0 ty_fld58_1 ty_size59 ty_agg59 ty_bytes59 ty_zero59 ty_size60 ty_agg60 ty_bytes60 ty_zero60 ty_size61 ty_agg61 ty_bytes61 ty_zero61 ty_size62 ty_agg62 ty_bytes62 ty_zero62 ty_size63 ty_agg63 ty_bytes63 ty_zero63 ty_size64 ty_agg64 ty_bytes64 ty_elem64 ty_zero64 ty_size65 ty_agg65 ty_bytes65 ty_zero65 ty_size66 ty_agg66 ty_bytes66 ty_zero66 ty_size67 ty_agg67 ty_bytes67 ty_zero67 ty_size68 ty_agg68 ty_bytes68 ty_zero68 ty_size69 ty_agg69 ty_bytes69 ty_zero69 ty_size70 ty_agg70 ty_bytes70 ty_zero70 ty_size71 ty_agg71 ty_bytes71 ty_zero71 ty_size72 ty_agg72 ty_bytes72 ty_zero72 ty_size73 ty_agg73 ty_bytes73 ty_zero73 ty_size74 ty_agg74 ty_bytes74 ty_allsz74 ty_noarr74 ty_zero74 ty_fld74_0 ty_size75 ty_agg75 ty_bytes75 ty_allsz75 ty_noarr75 ty_zero75 ty_fld75_0 ty_size76 ty_agg76 ty_bytes76 ty_elem76 ty_zero76 ty_size77 ty_agg77 ty_bytes77 ty_size78 ty_agg78 ty_bytes78 ty_zero78 ty_size79 ty_agg79 ty_bytes79 ty_allsz79 ty_noarr79 ty_zero79 ty_fld79_0 ty_fld79_1 ty_size80 ty_agg80 ty_bytes80 ty_allsz80 ty_noarr80 ty_zero80 ty_fld80_0 ty_fld80_1 ty_size81 ty_agg81 ty_bytes81 ty_allsz81 ty_noarr81 ty_zero81 ty_fld81_0 ty_fld81_1 ty_size82 ty_agg82 ty_bytes82 ty_allsz82 ty_noarr82 ty_zero82 ty_fld82_0 ty_fld82_1 ty_size83 ty_agg83 ty_bytes83 ty_zero83 ty_size84 ty_agg84 ty_bytes84 ty_allsz84 ty_noarr84 ty_zero84 ty_fld84_0 ty_size85 ty_agg85 ty_bytes85 ty_allsz85 ty_noarr85 ty_zero85 ty_fld85_0 ty_size86 ty_agg86 ty_bytes86 ty_zero86 ty_size87 ty_agg87 ty_bytes87 ty_zero87 ty_size88 ty_agg88 ty_bytes88 ty_elem88 ty_arr88 ty_zero88 ty_size89 ty_agg89 ty_bytes89 ty_zero89 ty_size90 ty_agg90 ty_bytes90 ty_allsz90 ty_noarr90 ty_zero90 ty_fld90_0 ty_size91 ty_agg91 ty_bytes91 ty_allsz91 ty_noarr91 ty_zero91 ty_fld91_0 ty_size92 ty_agg92 ty_bytes92 ty_size93 ty_agg93 ty_bytes93 ty_zero93 ty_size94 ty_agg94 ty_bytes94 ty_allsz94 ty_noarr94 ty_zero94 ty_fld94_0 ty_size95 ty_agg95 ty_bytes95 ty_allsz95 ty_noarr95 ty_zero95 ty_fld95_0 ty_size96 ty_agg96 ty_bytes96 ty_allsz96 ty_noarr96 ty_zero96 ty_fld96_0 ty_size97 ty_agg97 ty_bytes97 ty_zero97 ty_size98 ty_agg98 ty_bytes98 ty_zero98 ty_size99 ty_agg99 ty_bytes99 ty_zero99 ty_size100 ty_agg100 ty_bytes100 ty_zero100 ty_size101 ty_agg101 ty_bytes101 ty_zero101 ty_size102 ty_agg102 ty_bytes102 ty_zero102 ty_size103 ty_agg103 ty_bytes103 ty_zero103 ty_size104 ty_agg104 ty_bytes104 ty_zero104
attribute [go_sem] evOps_nil evOps_cons evDraw_nil evDraw_cons callNow isCallOp wantB stepOK stepSt stepWr afterA offA fitA fillOK fillT fillA_eq mapO Bool.and_true Bool.true_and Bool.and_false Bool.false_and Option.isSome_some Option.isSome_none Option.getD_some idsA Op.operands Call.operands wantedA dstOK opA evalA constA zeroAC AL.get_nil AL.get_eq AL.get_ne AL.set St.put St.upd cellsA plainOf plainC rowAtA loadA shiftA unshA fieldAddrA fieldA intOfA indexAddrA indexA lenA avR extractA spl storeA partsA buildA chunk toPV buildSliceA rowsOfA appendA capA nilCheckA plainsA plain1 cap1 part1 arg1 refs1 pvA rvA avRR fnA thenA blockA callPre Nat.zero_ne_one Nat.one_ne_zero true_and and_true Nat.lt_irrefl Nat.zero_add Nat.add_zero ne_eq not_false_eq_true not_true_eq_false Nat.le_refl decide_eq_true_eq Option.bind_some Option.bind_none Option.map_some Option.map_none Value.oneCell' if_true if_false Bool.false_eq_true decide_true decide_false List.getElem?_toArray List.getElem?_cons_zero List.getElem?_cons_succ List.take_succ_cons List.take_zero List.drop_succ_cons List.drop_zero List.drop_nil List.take_nil List.map_cons List.map_nil List.length_cons List.length_nil mapM_eq Option.pure_def Option.bind_eq_bind List.nil_append List.cons_append List.append_nil List.toList_toArray refsV refsC refsCC List.flatMap_cons List.flatMap_nil Array.toList_append List.append_toArray beq_self_eq_true if_pos_d if_neg_d dec_t dec_f get_some1 get_some2 get_some3 row1 row2 row3 List.getElem?_map Bool.not_true Bool.not_false bool_beq_true bool_beq_false bin_add bin_sub bin_mul bin_eql bin_neq bin_lss bin_leq bin_gtr bin_geq un_not un_neg min_two max_two max_three wrap_id Int.toNat_natCast List.length_map zeros_nil zeros_succ initV capV resV resV1 bne_self_eq_false Bool.or_false Bool.or_true Bool.false_or Bool.true_or restrict takeAL allRefs refsO List.all_cons List.all_nil Bool.and_self List.contains_cons List.contains_nil keep reachL slotRefs there keys ov ovL Option.getD_none
end Go.Proofs.Ytojbkpnkcpcioaa
