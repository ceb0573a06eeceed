/- The logic of plain data: a function of data that gives two results, the first of which holds a slice it has made, which is the caller's own. Seat-independent. -/
import Derived.Test.YtgdhdikeicgndaaPvAp
set_option linter.all false
namespace Go.Pv
open Go Go.RowKit Go.Sh
variable {K : Kx}
/-- THE CONTRACT OF A CALL that gives two results. -/
def CallF2 (K : Kx) (fid : FuncId) (avs : List AV) (st : St) (Q : St → AV → AV → Prop) : Prop :=
  ∀ σ a w us, Rel K σ st a w → RelVs (sit K σ st w) avs us → Calls K.P fid us w fun e w' => ∃ v0 v1, e = .returned (.tuple #[v0, v1]) ∧ ∃ σ' st' av0 av1, Rel K σ' st' a w' ∧ RelV (sit K σ' st' w') av0 v0 ∧ RelV (sit K σ' st' w') av1 v1 ∧ Q st' av0 av1
theorem results_two {fn : Func} {r0 r1 : ResultVar} (hrs : fn.results.toList = [r0, r1]) {tmps : Array Value} {v0 v1 : Value} {w : World} (h0 : (resF tmps r0).run K.P w = .ok v0 w) (h1 : (resF tmps r1).run K.P w = .ok v1 w) : (results fn tmps).run K.P w = .ok (.tuple #[v0, v1]) w := by
  have hm : (fn.results.mapM (resF tmps)).run K.P w = (List.toArray <$> fn.results.toList.mapM (resF tmps)).run K.P w := by
    rw [Array.mapM_eq_mapM_toList]
  rw [results_eq, Sem.run_bind, hm, hrs, Sem.run_map]
  simp only [List.mapM_cons, List.mapM_nil, Sem.run_bind, h0, h1, Result.andThen_ok]
  rfl
theorem callF2_new {fid : FuncId} {avs : List AV} {st : St} {fn : Func} {c : Code} {nt : Nat} {r0 r1 : ResultVar} (args : List RV) (E : TypeId) (k : Nat) (R : List (List PV) → List PV → PV → Prop) (hargs : mapO (rvA false (AL.get st.hp)) avs = some args)
    (hf : K.P.funcs[fid]? = some fn) (hb : fn.body = some c) (hnt : fn.ntmps = nt) (hrs : fn.results.toList = [r0, r1]) (hn : args.length ≤ nt)
    (h : ∀ (Z : Zn) (w0 : World), AW ⟨K.P, Z, w0, fun _ => False, nt, none, noPan, none, [], true⟩ c (fun e st' => (e = .normal ∨ e = .ret) ∧ ∃ rows ps x i av1, R rows ps x ∧ resV1 K.P st' r0 = some (.agg (.own i rows.length :: ps.map .p)) ∧ AL.get st'.hp i = some (.arr E k rows false) ∧
      (∀ (i : Nat) (row : List PV) (j : Nat) (c : PV), rows[i]? = some row → row[j]? = some c → ∃ v, c = .v v) ∧ (∀ p ∈ ps, ∃ v, p = .v v) ∧ resV1 K.P st' r1 = some av1 ∧ rvA false (AL.get st'.hp) av1 = some (.one x)) ⟨initFr 0 args, [], 0⟩) :
    CallF2 K fid avs st fun st' av0 av1 => ∃ rows ps x, R rows ps x ∧ st' = ⟨st.fr, (st.nx, .arr E k rows false) :: st.hp, st.nx + 1⟩ ∧ av0 = .agg (.own st.nx rows.length :: ps.map .p) ∧ av1 = .one (.p x) := by
  subst hnt
  intro σ a w us hr hus
  have hrel : RelRs ((sit K σ st w).Zc false) w args us := by
    rw [← mapM_eq] at hargs
    obtain ⟨h1, h2⟩ := mapM_get hargs
    refine ⟨by have := hus.1; omega, fun j r hj => ?_⟩
    obtain ⟨x, hx, hxr⟩ := h2 j r hj
    obtain ⟨u, hu, hru⟩ := hus.2 j x hx
    exact ⟨u, hu, rvA_rel (s := sit K σ st w) hr.heap hru hxr⟩
  refine calls_of_aw (K := ⟨K.P, (sit K σ st w).Zc false, w, fun _ => False, fn.ntmps, none, noPan, none, [], true⟩) hf hb rfl rfl (rel_init hrel hn) (h _ w) (fun e st' hq => hq.1) (fun e σ' st' a' w' hq hr' => ?_) (fun ps σ' st' a' w' hp _ => hp.elim)
  obtain ⟨_, rows, ps, x, i, av1, hR, hres, hi, hpl, hps, hres1, hrv1⟩ := hq
  obtain ⟨u, hu, hru⟩ := resV1_run hr' hres
  obtain ⟨u1, hu1, hru1⟩ := resV1_run hr' hres1
  have hx1 := rvA_rel hr'.heap hru1 hrv1
  obtain ⟨val, xs, g1, g2, g3, g4⟩ := hr'.heap.objs i (.arr E k rows false) hi
  have hbase : K.w0.heap.size ≤ w.heap.size := hr.frm.size
  have hfm := hr'.frm
  have hown : w'.ownsRow (sit K σ st w).base E k val rows.length xs := by
    refine ⟨g2.1, g2.2.imp id fun ⟨g, cap, cur, h0, h1, h2⟩ => ?_⟩
    exact ⟨g, cap, cur, h0, Nat.le_trans hbase h1, h2⟩
  have hlbv := locBlk_own g2
  have hge : ∀ b, val.ownBlock = some b → w.heap.size ≤ b := fun b hb => (g2.lt b hb).1
  have hs := hr.fresh (Nat.le_refl st.nx)
  have hnw := new_arr (s := sit K σ st w) hr.heap (id := st.nx) hs hbase (rows := rows) false hown ⟨hfm.os, hfm.tape, hfm.output, hfm.size, fun k hk _ => hfm.block k hk (fun h => h)⟩ hge g3 (fun i row j c hi hj => by
    obtain ⟨u, hu, hru⟩ := g4 i row j c hi hj
    obtain ⟨v, rfl⟩ := hpl i row j c hi hj
    cases hru with
    | v _ h => exact ⟨_, hu, .v _ h⟩)
  have hp : Put (sit K σ st w) st.nx (.arr E k rows false) val w' := Turn.put hnw.1 hnw.2 (fun k hk => hfm.block k hk (fun h => h)) hfm.size hfm.os hfm.tape hfm.output
  have hup := hr.upd hp
  have hst : st.upd (some (st.nx, .arr E k rows false)) = ⟨st.fr, (st.nx, .arr E k rows false) :: st.hp, st.nx + 1⟩ := by
    simp [St.upd, AL.set]
  rw [hst] at hup
  refine ⟨_, results_two hrs hu hu1, u, u1, rfl, _, _, _, _, hup, ?_, ?_, rows, ps, x, hR, rfl, rfl, rfl⟩
  · obtain ⟨us', rfl, hsz, hcs⟩ := hru
    refine ⟨us', rfl, by simpa using hsz, fun j c hj => ?_⟩
    rcases j with _ | j
    · simp at hj; subst hj
      obtain ⟨x, hx, E', k', rows', sh', l, q1, q2, q3, q4, q5⟩ := hcs 0 _ rfl
      have q1' : AL.get st'.hp i = some (.arr E' k' rows' sh') := q1
      rw [hi] at q1'; cases q1'
      have q2' : σ' i = some l := q2
      have g1' : σ' i = some val := g1
      rw [g1'] at q2'; cases q2'
      exact ⟨x, hx, E, k, rows, false, val, by simp [sit, AL.get_eq], by simp [sit, upd_same], Nat.le_refl _, q4, fun hlt => absurd hlt (Nat.lt_irrefl _)⟩
    · rw [List.getElem?_cons_succ, List.getElem?_map] at hj
      obtain ⟨p, hp1, rfl⟩ := Option.map_eq_some_iff.1 hj
      obtain ⟨x, hx, hrx⟩ := hcs (j + 1) (.p p) (by rw [List.getElem?_cons_succ, List.getElem?_map, hp1]; rfl)
      obtain ⟨v, rfl⟩ := hps p (List.mem_of_getElem? hp1)
      refine ⟨x, hx, ?_⟩
      have hrx' : RelP _ _ (.v v) x := hrx
      cases hrx' with
      | v _ h => exact .v _ h
  · have hx1' : RelP _ _ x u1 := hx1
    refine hx1'.mono fun b c u hz hc => ⟨?_, hc⟩
    have hz : (sit ⟨K.P, (sit K σ st w).Zc false, w, fun _ => False, fn.ntmps, none, noPan, none, [], true⟩ σ' st' w').Safe b c := by
      rcases hz with hz | ⟨hz, _⟩
      · exact hz
      · cases hz
    refine ⟨?_, fun id l hl hlb => ?_⟩
    · rcases hz.1 with h1 | h1
      · rcases h1 with h1 | ⟨h1, _⟩
        · exact h1.1
        · cases h1
      · exact .inr (Nat.le_trans hbase h1)
    · by_cases e : id = st.nx
      · subst e
        have hl' : Pv.upd σ st.nx val st.nx = some l := hl
        rw [upd_same] at hl'; cases hl'
        obtain ⟨E', k', rows', q1, _⟩ := hz.2 i val g1 hlb
        have q1' : AL.get st'.hp i = some (.arr E' k' rows' true) := q1
        rw [hi] at q1'; cases q1'
      · have hl' : σ id = some l := by rw [← hl]; exact (upd_other _ _ e).symm
        have hlt := (hr.heap.lt id l b hl' hlb).1
        rcases hz.1 with h1 | h1
        · rcases h1 with h1 | ⟨h1, _⟩
          · obtain ⟨E', k', rows', q1, q2⟩ := h1.2 id l hl' hlb
            refine ⟨E', k', rows', ?_, q2⟩
            show AL.get ((st.nx, _) :: st.hp) id = _
            rw [AL.get_ne _ _ e]; exact q1
          · cases h1
        · exact absurd h1 (by show ¬ w.heap.size ≤ b; have : b < w.heap.size := hlt; omega)
theorem put_get {a : Act} {d : Nat} {v : Value} (hd : d < a.tmps.size) : (a.put (some d) v).eval (.tmp d) = v := by
  show (a.tmps.setIfInBounds d v).getD d undef = v
  rw [getD_set hd, if_pos rfl]
theorem put_ne {a : Act} {d t : Nat} {v : Value} (hd : d < a.tmps.size) (h : t ≠ d) : (a.put (some d) v).eval (.tmp t) = a.eval (.tmp t) := by
  show (a.tmps.setIfInBounds d v).getD t undef = _
  rw [getD_set hd, if_neg h]; rfl
theorem wanted_none {fr : Nat → Option AV} {ops : Array Oper} {o : Oper} (h : o.guard = none) : wantedA fr ops o = some true := by
  unfold wantedA; rw [h]
/-- A call that gives two results, and what takes them apart. -/
theorem aw_tup {id : Nat} {l1 l2 : List Oper} {oc om e0 e1 : Oper} {Q : Exit → St → Prop} {st : St} {f : Operand} {args : Array Operand} {argTypes : Array TypeId} (tc ta t0 t1 : Nat)
    (hoc : oc.op = .call { callee := .value f, args := args, argTypes := argTypes }) (hocd : oc.dst = some tc) (hocg : oc.guard = none) (hom : om.op = .move (.tmp tc)) (homd : om.dst = some ta) (homg : om.guard = none) (he0 : e0.op = .extract (.tmp ta) 0) (he0d : e0.dst = some t0) (he0g : e0.guard = none)
    (he1 : e1.op = .extract (.tmp ta) 1) (he1d : e1.dst = some t1) (he1g : e1.guard = none) (hne : ta ≠ t0)
    (hdc : dstOK K (some tc) = true) (hda : dstOK K (some ta) = true) (hd0 : dstOK K (some t0) = true) (hd1 : dstOK K (some t1) = true)
    (h : evOps K (l1 ++ oc :: om :: e0 :: e1 :: l2).toArray l1 st fun st1 => ∃ (fid : FuncId) (caps : List CC) (avs : List AV) (fn : Func), (evalA (AL.get st1.fr) f).bind fnA = some (fid, caps) ∧ mapO (evalA (AL.get st1.fr)) args.toList = some avs ∧ K.P.funcs[fid]? = some fn ∧ fn.body.isSome = true ∧ fn.name ≠ "runtime.NumGoroutine" ∧
      CallF2 K fid (avs ++ caps.map capV) st1 fun st2 av0 av1 => evOps K (l1 ++ oc :: om :: e0 :: e1 :: l2).toArray l2 ((((st2.put (some tc) .any).put (some ta) .any).put (some t0) av0).put (some t1) av1) (Q .normal)) :
    AW K (.region id (l1 ++ oc :: om :: e0 :: e1 :: l2).toArray false) Q st := by
  intro σ a w hr
  refine wpIn_region_lit ?_
  refine evOps_then (fun _ _ _ => .inr) l1 (oc :: om :: e0 :: e1 :: l2) st σ a w _ h hr fun σ st1 a w hq hr => ?_
  obtain ⟨fid, caps, avs, fn, c1, c2, c5, c6, c7, hq⟩ := hq
  unfold wpListIn
  rw [wantedA_spec hr.fr (wanted_none hocg)]
  simp only [if_true]
  obtain ⟨us, hus, hs0, hcap⟩ := fn_rel hr.evF c1
  rw [← mapM_eq] at c2
  obtain ⟨hl, ha⟩ := mapM_get c2
  have hrun : (execOp a.eval oc).run K.P w = .ok (.enter fid (args.map a.eval ++ us)) w := by
    simp [execOp, hoc, resolve, invoke, hus, Deferred.ofValue, run_callFunc c5 c6 c7]
  have hl' : args.size = avs.length := by simpa using hl.symm
  refine wpIn_of (by rw [hoc]; intro c hc; cases hc) ?_
  rw [hrun, Oper.uponIn_enter]
  refine ⟨depth_K, callsIn_K ((hq σ a w _ hr ⟨by simp [hs0, hl'], fun j x hj => ?_⟩).mono fun e w' he => ?_)⟩
  · by_cases hjl : j < avs.length
    · rw [List.getElem?_append_left hjl] at hj
      obtain ⟨y, hy, hf⟩ := ha j x hj
      have hy' : args[j]? = some y := by simpa using hy
      refine ⟨a.eval y, ?_, hr.evF y x hf⟩
      rw [Array.getElem?_append_left (by simp [hl']; exact hjl)]
      simp [hy']
    · rw [List.getElem?_append_right (by omega), List.getElem?_map] at hj
      cases hq : caps[j - avs.length]? with
      | none => rw [hq] at hj; cases hj
      | some c =>
        rw [hq] at hj; cases hj
        obtain ⟨v, hv, hrv⟩ := hcap _ c hq
        refine ⟨v, ?_, capV_rel hrv⟩
        rw [Array.getElem?_append_right (by simp [hl']; omega)]
        simpa [hl'] using hv
  obtain ⟨v0, v1, rfl, σ', st', av0, av1, hr', hv0, hv1, hq⟩ := he
  have hr1 := hr'.put (dst := some tc) (av := .any) (v := .tuple #[v0, v1]) hdc trivial
  have hr2 := hr1.put (dst := some ta) (av := .any) (v := .tuple #[v0, v1]) hda trivial
  have hr3 := hr2.put (dst := some t0) (av := av0) (v := v0) hd0 hv0
  have hr4 := hr3.put (dst := some t1) (av := av1) (v := v1) hd1 hv1
  have lc : tc < a.tmps.size := by rw [hr'.nt]; exact dstOK_lt hdc
  have la : ta < (a.put (some tc) (.tuple #[v0, v1])).tmps.size := by rw [hr1.nt]; exact dstOK_lt hda
  have l0 : t0 < ((a.put (some tc) (.tuple #[v0, v1])).put (some ta) (.tuple #[v0, v1])).tmps.size := by rw [hr2.nt]; exact dstOK_lt hd0
  rw [hocd]
  show wpListIn K.F 0 K.P _ _ (om :: e0 :: e1 :: l2) (a.put (some tc) (.tuple #[v0, v1])) w'
  unfold wpListIn
  rw [wantedA_spec hr1.fr (wanted_none homg)]
  simp only [if_true]
  refine wpIn_of (by rw [hom]; intro c hc; cases hc) ?_
  have hrun1 : (execOp (a.put (some tc) (.tuple #[v0, v1])).eval om).run K.P w' = .ok (.value (.tuple #[v0, v1])) w' := by
    simp [execOp, hom, put_get lc]
  rw [hrun1]
  show wpListIn K.F 0 K.P _ _ (e0 :: e1 :: l2) ((a.put (some tc) (.tuple #[v0, v1])).put om.dst (.tuple #[v0, v1])) w'
  rw [homd]
  unfold wpListIn
  rw [wantedA_spec hr2.fr (wanted_none he0g)]
  simp only [if_true]
  refine wpIn_of (by rw [he0]; intro c hc; cases hc) ?_
  have hrun2 : (execOp ((a.put (some tc) (.tuple #[v0, v1])).put (some ta) (.tuple #[v0, v1])).eval e0).run K.P w' = .ok (.value v0) w' := by
    simp [execOp, he0, put_get la, Instr.extract]
  rw [hrun2]
  show wpListIn K.F 0 K.P _ _ (e1 :: l2) (((a.put (some tc) (.tuple #[v0, v1])).put (some ta) (.tuple #[v0, v1])).put e0.dst v0) w'
  rw [he0d]
  unfold wpListIn
  rw [wantedA_spec hr3.fr (wanted_none he1g)]
  simp only [if_true]
  refine wpIn_of (by rw [he1]; intro c hc; cases hc) ?_
  have hrun3 : (execOp (((a.put (some tc) (.tuple #[v0, v1])).put (some ta) (.tuple #[v0, v1])).put (some t0) v0).eval e1).run K.P w' = .ok (.value v1) w' := by
    simp [execOp, he1, put_ne l0 hne, put_get la, Instr.extract]
  rw [hrun3]
  show wpListIn K.F 0 K.P _ _ l2 ((((a.put (some tc) (.tuple #[v0, v1])).put (some ta) (.tuple #[v0, v1])).put (some t0) v0).put e1.dst v1) w'
  rw [he1d]
  exact evOps_sound (fun _ _ _ => .inr) l2 _ _ _ w' _ hq hr4 fun σ' st' a' w' h1 h2 => .inl ⟨σ', st', h1, h2⟩
end Go.Pv
