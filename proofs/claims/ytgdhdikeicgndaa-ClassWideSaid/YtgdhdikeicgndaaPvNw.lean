/- The logic of plain data: a function of data that gives a slice it has made, under any name that is free; in a drawn region. Seat-independent; asks PvY with TurnsN (patch13). -/
import Derived.Test.YtgdhdikeicgndaaPvFc
import Derived.Test.YtgdhdikeicgndaaKpv2
set_option linter.all false
namespace Go.Pv
open Go Go.RowKit Go.Sh
variable {K : Kx}
theorem callF_newAt {fid : FuncId} {avs : List AV} {st : St} {fn : Func} {c : Code} {nt : Nat} {rs : List ResultVar} (nw : Nat) (hnw : AL.get st.hp nw = none) (args : List RV) (E : TypeId) (k : Nat) (rows : List (List PV)) (ps : List PV) (hargs : mapO (rvA true (AL.get st.hp)) avs = some args)
    (hf : K.P.funcs[fid]? = some fn) (hb : fn.body = some c) (hnt : fn.ntmps = nt) (hrs : fn.results.toList = rs) (hn : args.length ≤ nt)
    (hpl : ∀ (i : Nat) (row : List PV) (j : Nat) (c : PV), rows[i]? = some row → row[j]? = some c → ∃ v, c = .v v) (hps : ∀ p ∈ ps, ∃ v, p = .v v)
    (h : ∀ (Z : Zn) (w0 : World), AW ⟨K.P, Z, w0, fun _ => False, nt, none, noPan, none, [], true⟩ c (fun e st' => (e = .normal ∨ e = .ret) ∧ ∃ i sh, resV K.P st' rs = some (.agg (.own i rows.length :: ps.map .p)) ∧ AL.get st'.hp i = some (.arr E k rows sh)) ⟨initFr 0 args, [], 0⟩) :
    CallF K fid avs st fun st' av => st' = st.upd (some (nw, .arr E k rows false)) ∧ av = .agg (.own nw rows.length :: ps.map .p) := by
  subst hnt hrs
  intro σ a w us hr hus
  have hrel : RelRs ((sit K σ st w).Zc true) w args us := by
    rw [← mapM_eq] at hargs
    obtain ⟨h1, h2⟩ := mapM_get hargs
    refine ⟨by have := hus.1; omega, fun j r hj => ?_⟩
    obtain ⟨x, hx, hxr⟩ := h2 j r hj
    obtain ⟨u, hu, hru⟩ := hus.2 j x hx
    exact ⟨u, hu, rvA_rel (s := sit K σ st w) hr.heap hru hxr⟩
  refine calls_of_aw (K := ⟨K.P, (sit K σ st w).Zc true, w, fun _ => False, fn.ntmps, none, noPan, none, [], true⟩) hf hb rfl rfl (rel_init hrel hn) (h _ w) (fun e st' hq => hq.1) (fun e σ' st' a' w' hq hr' => ?_) (fun ps σ' st' a' w' hp _ => hp.elim)
  obtain ⟨_, i, sh, hres, hi⟩ := hq
  obtain ⟨u, hu, hru⟩ := resV_run hr' hres
  obtain ⟨val, xs, g1, g2, g3, g4⟩ := hr'.heap.objs i (.arr E k rows sh) hi
  have hbase : K.w0.heap.size ≤ w.heap.size := hr.frm.size
  have hfm := hr'.frm
  have hown : w'.ownsRow (sit K σ st w).base E k val rows.length xs := by
    refine ⟨g2.1, g2.2.imp id fun ⟨g, cap, cur, h0, h1, h2⟩ => ?_⟩
    exact ⟨g, cap, cur, h0, Nat.le_trans hbase h1, h2⟩
  have hs : (sit K σ st w).σ nw = none := by
    cases hq : (sit K σ st w).σ nw with
    | none => rfl
    | some l =>
      obtain ⟨o, ho⟩ := hr.heap.dom nw l hq
      have ho' : AL.get st.hp nw = some o := ho
      rw [hnw] at ho'; cases ho'
  have hnwA := new_arr (s := sit K σ st w) hr.heap (id := nw) hs hbase (rows := rows) false hown ⟨hfm.os, hfm.tape, hfm.output, hfm.size, fun k hk _ => hfm.block k hk (fun h => h)⟩ (fun b hb => (g2.lt b hb).1) g3 (fun i row j c hi hj => by
    obtain ⟨u, hu, hru⟩ := g4 i row j c hi hj
    obtain ⟨v, rfl⟩ := hpl i row j c hi hj
    cases hru with
    | v _ h => exact ⟨_, hu, .v _ h⟩)
  have hp : Put (sit K σ st w) nw (.arr E k rows false) val w' := Turn.put hnwA.1 hnwA.2 (fun k hk => hfm.block k hk (fun h => h)) hfm.size hfm.os hfm.tape hfm.output
  have hup := hr.upd hp
  refine ⟨u, hu, .inl ⟨u, rfl, _, _, _, hup, ?_, rfl, rfl⟩⟩
  obtain ⟨us', rfl, hsz, hcs⟩ := hru
  refine ⟨us', rfl, by simpa using hsz, fun j c hj => ?_⟩
  rcases j with _ | j
  · simp at hj; subst hj
    obtain ⟨x, hx, E', k', rows', sh', l, q1, q2, q3, q4, q5⟩ := hcs 0 _ rfl
    have q1' : AL.get st'.hp i = some (.arr E' k' rows' sh') := q1
    rw [hi] at q1'; cases q1'
    have q2' : σ' i = some l := q2
    have g1' : σ' i = some val := g1
    rw [g1'] at q2'; cases q2'
    exact ⟨x, hx, E, k, rows, false, val, by simp [sit, St.upd, AL.get_eq, AL.get_set], by simp [sit, upd_same], Nat.le_refl _, q4, fun hlt => absurd hlt (Nat.lt_irrefl _)⟩
  · rw [List.getElem?_cons_succ, List.getElem?_map] at hj
    obtain ⟨p, hp1, rfl⟩ := Option.map_eq_some_iff.1 hj
    obtain ⟨x, hx, hrx⟩ := hcs (j + 1) (.p p) (by rw [List.getElem?_cons_succ, List.getElem?_map, hp1]; rfl)
    obtain ⟨v, rfl⟩ := hps p (List.mem_of_getElem? hp1)
    refine ⟨x, hx, ?_⟩
    have hrx' : RelP _ _ (.v v) x := hrx
    cases hrx' with
    | v _ h => exact .v _ h
/-- A call that makes an object of that name, in a drawn region. -/
theorem callD_N {l : List Oper} {o : Oper} {rest : List Oper} {st : St} {recs : List Rec} {Q : St → Prop} {f : Operand} {args : Array Operand} {argTypes : Array TypeId} {fid : FuncId} {caps : List CC} {avs : List AV} {fn : Func} (nw : Nat) (ob : Obj') (av : AV)
    (hd : dstOK K o.dst = true) (ho : o.op = .call { callee := .value f, args := args, argTypes := argTypes }) (h1 : (evalA (AL.get st.fr) f).bind fnA = some (fid, caps)) (h2 : mapO (evalA (AL.get st.fr)) args.toList = some avs)
    (h5 : K.P.funcs[fid]? = some fn) (h6 : fn.body.isSome = true) (h7 : fn.name ≠ "runtime.NumGoroutine") (hnw : AL.get st.hp nw = none)
    (hC : ∀ fr hp nx, AL.get hp nw = none → CallF K fid (avs ++ caps.map capV) ⟨fr, hp, nx⟩ fun st' av' => st' = St.upd ⟨fr, hp, nx⟩ (some (nw, ob)) ∧ av' = av) (h : evDraw K l rest ((st.upd (some (nw, ob))).put o.dst av) (recs ++ [(some [nw], [nw])]) Q) : CallD K l o rest st recs Q :=
  callD_new hd (by rw [ho]; rfl) [] nw ob av ⟨hnw, fun fr hp nx hk _ hn => by
    obtain ⟨g1, g2⟩ := callee_keep hk ho h1 h2
    exact callS_of hd ho fid g1 g2 h5 h6 h7 ((hC fr hp nx hn).mono fun _ _ he => by obtain ⟨rfl, rfl⟩ := he; rfl)⟩ h
end Go.Pv
