/- Texts of the proof, joined. -/
import Derived.Test.YthedkfiebmnghaaGreatKpv6
set_option linter.all false
namespace Go.Pv
open Go Go.RowKit Go.Sh
variable {K : Kx}
def dataZ : AC → PV
 | .p x => x
 | _ => .sl []
def isDZ : AC → Bool
 | .p _ => true
 | .nil => true
 | _ => false
theorem dataZ_rel {s : Sit} {c : AC} {u : Value} (hd : isDZ c = true) (h : RelC s c u) : RelP s.Safe s.w (dataZ c) u := by
 cases c with
 | p x => exact h
 | nil => rw [show u = .slice none 0 0 from h]; exact relP_nil none 0
 | _ => cases hd
theorem callS_makeSliceZ {st : St} {o : Oper} {Q : St → Prop} {T E : TypeId} {x y : Operand} (hd : dstOK K o.dst = true) (ho : o.op = .makeSlice T x y) {k by_ n : Nat} {zr : List PV} {zc : List AC} {kx ky : IntKind}
  (hT : sliceElem K.P T = some E) (hE : tySize K.P E = some k) (hB : tyBytes K.P E = some by_) (hZ : tyZero K.P E = some zc) (hzz : zc.map dataZ = zr) (hdz : zc.all isDZ = true) (hzl : zr.length = k) (hx : plain1 (AL.get st.fr) x = some (.int kx (n : Int))) (hy : plain1 (AL.get st.fr) y = some (.int ky (n : Int)))
  (hn : n * k ≤ 16777216) (hb : by_ * n ≤ 281474976710656) (hm : n ≤ maxLen) (h : Q ((st.upd (some (st.nx, .arr E k (List.replicate n zr) false))).put o.dst (.one (.own st.nx n)))) : CallS K st o Q := by
 intro σ a w hrel
 refine wpIn_of (by rw [ho]; intro c hc; cases hc) ?_
 simp only [plain1, Option.bind_eq_some_iff] at hx hy
 obtain ⟨ax, hax, hpx⟩ := hx
 obtain ⟨ay, hay, hpy⟩ := hy
 have e1 := plainOf_rel (hrel.evF x ax hax) hpx
 have e2 := plainOf_rel (hrel.evF y ay hay) hpy
 have hu := underlying_slice hT
 unfold tySize at hE
 unfold tyBytes at hB
 unfold tyZero at hZ
 simp only [Option.map_eq_some_iff, Option.bind_eq_some_iff] at hE hB hZ
 obtain ⟨i, hi, hik⟩ := hE
 obtain ⟨i2, hi2, hib⟩ := hB
 rw [hi] at hi2; cases hi2
 obtain ⟨z, ⟨i3, hi3, hzi⟩, hzc⟩ := hZ
 rw [hi] at hi3; cases hi3
 have hzr := relCs_zero (s := sit K σ st w) hzc
 have hzs : z.cells.size = k := by rw [hzr.1, ← hzl, ← hzz, List.length_map]
 obtain ⟨w', hrun, hown, hgrow⟩ := run_makeSlice_full (P := K.P) w K.w0.heap.size T E i z k hu hi hzi hik kx ky n hn (by rw [hib]; exact hb) hm hrel.frm.size
 have hrun2 : (execOp a.eval o).run K.P w = .ok (.value (.slice (some ⟨w.heap.size, 0, none⟩) n n)) w' := by
  simp [execOp, ho, e1, e2, hrun]
 rw [hrun2, Oper.uponIn_value]
 have hl : (List.replicate n zr).length = n := by simp
 have hk : rowsK k (List.replicate n zr) := fun i row hi => by rw [(zeros_at n i row hi).1]; exact hzl
 have hcw : Cellwise (sit K σ st w).Safe w k (List.replicate n zr) (madeCells z.cells (n * k)).toList := by
  intro i row j c hi hj
  obtain ⟨rfl, hin⟩ := zeros_at n i row hi
  have hjk : j < k := by rw [← hzl]; exact (List.getElem?_eq_some_iff.1 hj).1
  rw [← hzz, List.getElem?_map] at hj
  obtain ⟨c0, hc0, rfl⟩ := Option.map_eq_some_iff.1 hj
  obtain ⟨u, hu, hru0⟩ := hzr.2 j c0 hc0
  have hru : RelP (sit K σ st w).Safe w (dataZ c0) u := dataZ_rel (List.all_eq_true.1 hdz c0 (List.mem_of_getElem? hc0)) hru0
  refine ⟨u, ?_, hru⟩
  have hjj : i * k + j < n * k := by
   have : (i + 1) * k ≤ n * k := Nat.mul_le_mul_right k hin
   rw [Nat.add_mul, Nat.one_mul] at this; omega
  have hmod : (i * k + j) % k = j := by rw [Nat.mul_comm, Nat.mul_add_mod]; exact Nat.mod_eq_of_lt hjk
  unfold madeCells
  rw [Array.getElem?_toList, Array.getElem?_map, Array.getElem?_range, if_pos hjj, hzs]
  simp only [Option.map_some, hmod]
  rw [Array.getElem!_eq_getD, Array.getD_eq_getD_getElem?, hu]; rfl
 have hnone := hrel.fresh (Nat.le_refl _)
 obtain ⟨q1, q2⟩ := new_arr hrel.heap (s := sit K σ st w) (id := st.nx) hnone hrel.frm.size false (rows := List.replicate n zr) (E := E) (by rw [hl]; exact hown) hgrow (by intro b hb; simp [Value.ownBlock] at hb; subst hb; exact Nat.le_refl _) hk hcw
 have hp : Put (sit K σ st w) st.nx (.arr E k (List.replicate n zr) false) (.slice (some ⟨w.heap.size, 0, none⟩) n n) w' := ⟨q1, q2, fun k hk _ => hgrow.block k hk (by simp), hgrow.size, hgrow.os, hgrow.tape, hgrow.output⟩
 refine ⟨_, _, hrel.put_upd hp hd (av := .one (.own st.nx n)) ?_, h⟩
 exact ⟨E, k, List.replicate n zr, false, _, upd_same _ _ _, upd_same _ _ _, by rw [hl]; exact Nat.le_refl _, fun _ => rfl, fun hlt => by rw [hl] at hlt; omega⟩
theorem callD_copy {l : List Oper} {o : Oper} {r : List Oper} {st : St} {recs : List Rec} {Q : St → Prop} {x y : Operand} {T T' : TypeId} (hd : dstOK K o.dst = true) (ho : o.op = .call { callee := .builtin .copy, args := #[x, y], argTypes := #[T, T'] }) {t n k : Nat} {E : TypeId} {rows xr : List (List PV)}
  (hT : sliceElem K.P T = some E) (hE : tySize K.P E = some k) (h0 : 0 < k) (hx : evalA (AL.get st.fr) x = some (.one (.own t n))) (ht : AL.get st.hp t = some (.arr E k rows false)) (hn : n = rows.length) (hlt : t < st.nx)
  (hy : evalA (AL.get st.fr) y = some (.one (.p (.sl xr)))) (hk : rowsK k xr) (hl : xr.length = rows.length)
  (h : evDraw K l r (St.put ⟨st.fr, AL.set st.hp t (.arr E k xr false), st.nx⟩ o.dst (.one (.p (.v (.int .i64 (n : Int)))))) (recs ++ [(none, [t])]) Q) : CallD K l o r st recs Q := by
 refine callD_turn hd (by rw [ho]; rfl) [t] (.one (.p (.v (.int .i64 (n : Int))))) _ _ ⟨fun i hi => ?_, Nat.le_refl _, fun i hi => ?_, fun fr hkp => ?_⟩ h
 ·exact AL.get_ne _ _ (by rintro rfl; exact hi List.mem_cons_self)
 ·rw [List.mem_singleton.1 hi]; exact hlt
 ·refine callS_copy (st := ⟨fr, st.hp, st.nx⟩) hd ho (t := t) (n := n) (k := k) (E := E) (rows := rows) (xr := xr) (av := .one (.p (.sl xr))) hT hE h0 ?_ ht hn ?_ rfl hk hl ?_
  ·show evalA (AL.get fr) x = _
   rw [evalA_keep hkp (by simp [ho, Op.operands, Call.operands])]; exact hx
  ·show evalA (AL.get fr) y = _
   rw [evalA_keep hkp (by simp [ho, Op.operands, Call.operands])]; exact hy
  ·show (St.put (St.upd ⟨fr, st.hp, st.nx⟩ (some (t, _))) o.dst _) = _
   simp only [St.upd, if_pos hlt]
def rgt : Code → Code
 | .seq _ b => b
 | c => c
def rgtN : Nat → Code → Code
 | 0, c => c
 | n + 1, c => rgt (rgtN n c)
def fnCode (f : Func) : Code := f.body.getD .skip
variable {K : Kx}
theorem fun_expAr (rg : Bool) {P : Program} {f : FuncId} {fn : Func} {r0 rest : Code} {id : Nat} {l : List Oper} {od : Oper} {args : List RV} {res : RR} {nt t eb : Nat} {fid : FuncId} {rs : List ResultVar} {argTypes : Array TypeId} {pv : Int → Value} (hD : AnswersOK P fid pv)
  (hf : P.funcs[f]? = some fn) (hb : fn.body = some (.seq r0 (.seq (.region id (l ++ [od]).toArray false) rest))) (hnt : fn.ntmps = nt) (hrs : fn.results.toList = rs) (hn : args.length ≤ nt)
  (hod : od.op = .defer { callee := .value (.func fid), args := #[.tmp t], argTypes := argTypes }) (hg : od.guard = none) (hdd : od.dst = none) (hans : ansFid P = fid)
  {fa : Func} (h5 : P.funcs[fid]? = some fa) (h6 : fa.body.isSome = true) (h7 : fa.name ≠ "runtime.NumGoroutine")
  (h : ∀ Z w0, AW ⟨P, Z, w0, fun _ => False, nt, none, noPan, none, [], false⟩ r0 (fun e st1 => e = .normal ∧ evOps ⟨P, Z, w0, fun _ => False, nt, none, noPan, none, [], false⟩ (l ++ [od]).toArray l st1 fun st2 =>
   AL.get st2.fr t = some (.one (.box eb 0)) ∧ AW ⟨P, Z, w0, fun _ => False, nt, none,
    fun ps st' => ∃ c x, ps = [{ v := pv c, recovered := false }] ∧ AL.get st'.fr t = some (.one (.box eb 0)) ∧ AL.get st'.hp eb = some (.box [.p (.v (.int .i64 x))]) ∧ resA P ⟨st'.fr, AL.set st'.hp eb (.box [.p (.v (.int .i64 c))]), st'.nx⟩ rs = some res, some t, [], rg⟩ rest
    (fun e st' => (e = .normal ∨ e = .ret) ∧ AL.get st'.fr t = some (.one (.box eb 0)) ∧ resA P st' rs = some res) st2) ⟨initFr 0 args, [], 0⟩) : FunOK P f args res := by
 subst hnt hrs
 intro Z w us hus
 refine callsIn_wide.1 (callsIn_of_wp_marks (n := 0) hf hb trivial ?_)
 have hr0 := rel_init (P := P) (Z := Z) (w := w) (pan := noPan) (rg := false) hus hn
 refine wpIn_seq (wpIn_mono (h Z w _ _ _ hr0) fun e a1 w1 hp => ?_)
 rcases hp with ⟨σ1, st1, ⟨rfl, hev⟩, hr1⟩ | ⟨ps, rfl, _, _, _, hp⟩
 rotate_left
 ·exact hp.elim
 refine wpIn_seq (wpIn_region_lit (F := Fence.wide) ?_)
 refine wpListIn_append (K := ⟨P, Z, w, fun _ => False, fn.ntmps, none, noPan, none, [], false⟩) l a1 w1 ?_
 refine evOps_sound (K := ⟨P, Z, w, fun _ => False, fn.ntmps, none, noPan, none, [], false⟩) (fun e a' w' hp => ?_) l st1 σ1 a1 w1 _ hev hr1 (fun σ2 st2 a2 w2 hq hr2 => ?_)
 ·obtain ⟨ps, rfl, _, _, _, hp⟩ := hp
  exact hp.elim
 obtain ⟨ht, haw⟩ := hq
 show wpListIn Fence.wide 0 P _ _ [od] a2 w2
 unfold wpListIn
 rw [if_pos (by simp [Region.wanted, hg])]
 obtain ⟨cs2, blk2, hb2, hσ2, hus2⟩ := (hr2.fr t _ ht).2
 obtain ⟨Ds, hds, hd2, hd3, hd4, hd5⟩ := hr2.df
 have hDs := hd5 rfl
 subst hDs
 have hdl : dfL ⟨P, Z, w, fun _ => False, fn.ntmps, none, noPan, none, [], false⟩ a2 = [] := rfl
 rw [hdl] at hds
 refine ⟨fun _ _ => trivial, ?_⟩
 have hrun : (od.semAt Fence.wide.round a2.eval).run P w2 = .ok (.defer { target := .fn (.func fid) #[], args := #[.pointer (some ⟨blk2, 0, none⟩)] }) w2 := by
  rw [show Fence.wide.round = none from rfl, Oper.semAt_none]
  have hev2 : a2.eval (.tmp t) = .pointer (some ⟨blk2, 0, none⟩) := hus2
  have hev3 : a2.eval (.func fid) = .func (.func fid) #[] #[] := rfl
  simp [execOp, hod, resolve, hev2, hev3, Deferred.ofValue]
 rw [hrun, Oper.uponIn_defer, hdd]
 have ha2 : a2.defers = [] := hds
 let K1 : Kx := ⟨P, Z, w, fun _ => False, fn.ntmps, none,
    fun ps st' => ∃ c x, ps = [{ v := pv c, recovered := false }] ∧ AL.get st'.fr t = some (.one (.box eb 0)) ∧ AL.get st'.hp eb = some (.box [.p (.v (.int .i64 x))]) ∧ resA P ⟨st'.fr, AL.set st'.hp eb (.box [.p (.v (.int .i64 c))]), st'.nx⟩ fn.results.toList = some res, some t, [], rg⟩
 have hr3 : Rel K1 σ2 st2 { a2 with defers := { target := .fn (.func fid) #[], args := #[.pointer (some ⟨blk2, 0, none⟩)] } :: a2.defers } w2 := by
  refine ⟨hr2.heap, hr2.fr, hr2.lt, ⟨[], ?_, List.nodup_nil, fun D hD => (by cases hD), fun D hD => (by cases hD), fun _ => rfl⟩, hr2.nt, hr2.frm⟩
  simp only [List.map_nil, List.nil_append, dfL, K1]
  rw [ha2]
  show _ = [dfOf P (a2.tmps.getD t undef)]
  rw [hus2]
  show _ = ([{ target := .fn (.func (ansFid P)) #[], args := #[.pointer (some ⟨blk2, 0, none⟩)] }] : List Deferred)
  rw [hans]
 have hend : ∀ (a' : Act) (Ds : List Nat) (σ' : Nat → Option Value) (st' : St) (w' : World), Rel K1 σ' st' a' w' → AL.get st'.fr t = some (.one (.box eb 0)) → a'.defers = Ds.map collD ++ dfL K1 a' → ∃ blk, dfL K1 a' = [{ target := .fn (.func fid) #[], args := #[.pointer (some ⟨blk, 0, none⟩)] }] ∧ σ' eb = some (.pointer (some ⟨blk, 0, none⟩)) := by
  intro a' Ds σ' st' w' hr' ht' _
  obtain ⟨cs, blk, e1, e2, e3⟩ := (hr'.fr t _ ht').2
  refine ⟨blk, ?_, e2⟩
  show [dfOf P (a'.tmps.getD t undef)] = _
  rw [e3]
  show ([{ target := .fn (.func (ansFid P)) #[], args := #[.pointer (some ⟨blk, 0, none⟩)] }] : List Deferred) = _
  rw [hans]
 have hinv : ∀ (blk : Nat) (w' : World), (invoke (.fn (.func fid) #[]) #[.pointer (some ⟨blk, 0, none⟩)]).run P w' = .ok (.enter fid #[.pointer (some ⟨blk, 0, none⟩)]) w' := by
  intro blk w'
  simp [invoke, run_callFunc h5 h6 h7]
 have hres : ∀ (σ' : Nat → Option Value) (st' : St) (a' : Act) (w' : World), Rel K1 σ' st' a' w' → resA P st' fn.results.toList = some res → ∃ v, (results fn a'.tmps).run P w' = .ok v w' ∧ ∃ u, Ending.returned v = .returned u ∧ RelRR (fun b c => Z b c ∨ w.heap.size ≤ b) w' res u ∧ Below w.heap.size w w' := by
  intro σ' st' a' w' hr' hq
  obtain ⟨u, hu, hru⟩ := results_run (K := K1) hr' hq
  refine ⟨u, hu, u, rfl, hru.mono fun b c x hz hc => ⟨?_, hc⟩, rel_below hr' fun _ h => h⟩
  rcases hz with hz | ⟨_, id, l, h1, h2⟩
  ·exact hz.1
  ·rcases (hr'.heap.lt id l b h1 h2).2 with h3 | h3
   ·exact .inr h3
   ·exact h3.elim
 let R : Ending → World → Prop := fun e w' => ∃ u, e = .returned u ∧ RelRR (fun b c => Z b c ∨ w.heap.size ≤ b) w' res u ∧ Below w.heap.size w w'
 refine wpIn_mono (haw σ2 _ w2 hr3) fun e a' w' hp => ?_
 rcases hp with ⟨σ', st', ⟨he, ht', hq⟩, hr'⟩ | ⟨ps, rfl, σ', st', hr', c, x, rfl, ht', hbx, hq⟩
 ·obtain ⟨Ds, hDs, _⟩ := hr'.df
  obtain ⟨blk, hdl, hσ⟩ := hend a' Ds σ' st' w' hr' ht' hDs
  have key : LeavesInM Fence.wide 0 P fn a'.tmps R a'.defers .returning w' := by
   rw [hDs, hdl]
   rw [hdl] at hDs
   refine leaves_rests (K := K1) (by simp) Ds a' w' hr' hDs rfl fun w3 hr4 => ⟨by simp, .inr ⟨fun h => (by cases h), _, _, fid, _, rfl, hinv blk w3, fun _ _ => trivial, ?_⟩⟩
   refine CallsDIn.mono' (hD.idle ⟨blk, 0, none⟩ w3) fun e u' w4 hh => ?_
   obtain ⟨rfl, rfl, hbel⟩ := hh
   have hh := hres _ _ _ _ (hr4.at hbel) hq
   exact hh
  rcases he with rfl | rfl
  ·exact key
  ·exact key
 ·obtain ⟨Ds, hDs, _⟩ := hr'.df
  obtain ⟨blk, hdl, hσ⟩ := hend a' Ds σ' st' w' hr' ht' hDs
  show LeavesInM Fence.wide 0 P fn a'.tmps R a'.defers (.panicking _) w'
  rw [hDs, hdl]
  rw [hdl] at hDs
  refine leaves_rests (K := K1) (by simp) Ds a' w' hr' hDs rfl fun w3 hr4 => ⟨by simp, .inr ⟨fun h => (by cases h), _, _, fid, _, rfl, hinv blk w3, fun _ _ => trivial, ?_⟩⟩
  obtain ⟨blk', vs, ty, e1, e2, e3⟩ := hr4.heap.objs eb _ hbx
  have e1' : σ' eb = some (.pointer (some ⟨blk', 0, none⟩)) := e1
  rw [hσ] at e1'; cases e1'
  have e2' : w3.heap[blk]? = some (.cells vs ty (0, 0)) := e2
  obtain ⟨v0, hv0, hrv⟩ := e3.2 0 _ rfl
  have hv0' : v0 = .int .i64 x := by
   have : RelP _ _ (.v (.int .i64 x)) v0 := hrv
   cases this; rfl
  subst hv0'
  have hcell : w3.cell? ⟨blk, 0, none⟩ = some (.int .i64 x) := by rw [cell_of_row w3 blk 0 vs ty (0, 0) e2']; exact hv0
  have hfro : w3.frozen? ⟨blk, 0, none⟩ = false := by simp [World.frozen?, e2']
  refine CallsDIn.mono' (hD.stop ⟨blk, 0, none⟩ x c w3 hcell hfro) fun e u' w4 hh => ?_
  obtain ⟨rfl, rfl, w5, hbel, rfl⟩ := hh
  have hh := hres _ _ _ _ (hr4.answer hbx hbel hσ) hq
  exact hh
theorem fun_expA {P : Program} {f : FuncId} {fn : Func} {r0 rest : Code} {id : Nat} {l : List Oper} {od : Oper} {args : List RV} {res : RR} {nt t eb : Nat} {fid : FuncId} {rs : List ResultVar} {argTypes : Array TypeId} {pv : Int → Value} (hD : AnswersOK P fid pv)
  (hf : P.funcs[f]? = some fn) (hb : fn.body = some (.seq r0 (.seq (.region id (l ++ [od]).toArray false) rest))) (hnt : fn.ntmps = nt) (hrs : fn.results.toList = rs) (hn : args.length ≤ nt)
  (hod : od.op = .defer { callee := .value (.func fid), args := #[.tmp t], argTypes := argTypes }) (hg : od.guard = none) (hdd : od.dst = none) (hans : ansFid P = fid)
  {fa : Func} (h5 : P.funcs[fid]? = some fa) (h6 : fa.body.isSome = true) (h7 : fa.name ≠ "runtime.NumGoroutine")
  (h : ∀ Z w0, AW ⟨P, Z, w0, fun _ => False, nt, none, noPan, none, [], false⟩ r0 (fun e st1 => e = .normal ∧ evOps ⟨P, Z, w0, fun _ => False, nt, none, noPan, none, [], false⟩ (l ++ [od]).toArray l st1 fun st2 =>
   AL.get st2.fr t = some (.one (.box eb 0)) ∧ AW ⟨P, Z, w0, fun _ => False, nt, none,
    fun ps st' => ∃ c x, ps = [{ v := pv c, recovered := false }] ∧ AL.get st'.fr t = some (.one (.box eb 0)) ∧ AL.get st'.hp eb = some (.box [.p (.v (.int .i64 x))]) ∧ resA P ⟨st'.fr, AL.set st'.hp eb (.box [.p (.v (.int .i64 c))]), st'.nx⟩ rs = some res, some t, [], true⟩ rest
    (fun e st' => (e = .normal ∨ e = .ret) ∧ AL.get st'.fr t = some (.one (.box eb 0)) ∧ resA P st' rs = some res) st2) ⟨initFr 0 args, [], 0⟩) : FunOK P f args res :=
 fun_expAr true hD hf hb hnt hrs hn hod hg hdd hans h5 h6 h7 h
variable {K : Kx}
theorem callS_bfnF {st : St} {o : Oper} {Q : St → Prop} {f : Operand} {args : Array Operand} {argTypes : Array TypeId} (hd : dstOK K o.dst = true) (ho : o.op = .call { callee := .value f, args := args, argTypes := argTypes })
  (fid : FuncId) {first : List RV} (h1 : evalA (AL.get st.fr) f = some (.one (.bfn fid first)))
  {avs : List AV} (h2 : mapO (evalA (AL.get st.fr)) args.toList = some avs)
  {fn : Func} (h5 : K.P.funcs[fid]? = some fn) (h6 : fn.body.isSome = true) (h7 : fn.name ≠ "runtime.NumGoroutine") (h : CallF K fid (first.map avR ++ avs) st fun st' av => Q (st'.put o.dst av)) : CallS K st o Q := by
 intro σ a w hr
 obtain ⟨us, hv, hfs, hfi⟩ := hr.evF f _ h1
 rw [← mapM_eq] at h2
 obtain ⟨hl, ha⟩ := mapM_get h2
 have hrun : (execOp a.eval o).run K.P w = .ok (.enter fid (us ++ args.map a.eval)) w := by
  simp [execOp, ho, resolve, invoke, hv, Deferred.ofValue, run_callFunc h5 h6 h7]
 have hl' : args.size = avs.length := by simpa using hl.symm
 refine wpIn_of (by rw [ho]; intro c hc; cases hc) ?_
 rw [hrun, Oper.uponIn_enter]
 refine ⟨depth_K, callsIn_K ((h σ a w _ hr ⟨by simp [hl', hfs], fun j x hj => ?_⟩).mono fun e w' he => ?_)⟩
 ·by_cases hjl : j < first.length
  ·rw [List.getElem?_append_left (by simpa using hjl), List.getElem?_map] at hj
   obtain ⟨r, hr0, rfl⟩ := Option.map_eq_some_iff.1 hj
   obtain ⟨u, hu, hru⟩ := hfi j r hr0
   exact ⟨u, by rw [Array.getElem?_append_left (by omega)]; exact hu, avR_rel hru⟩
  ·rw [List.getElem?_append_right (by simpa using hjl)] at hj
   simp only [List.length_map] at hj
   obtain ⟨y, hy, hf⟩ := ha _ x hj
   have hy' : args[j - first.length]? = some y := by simpa using hy
   refine ⟨a.eval y, ?_, hr.evF y x hf⟩
   rw [Array.getElem?_append_right (by omega), hfs]
   simp [hy']
 ·rcases he with ⟨u, rfl, σ', st', av, h1, h2, h3⟩ | ⟨ps, rfl, σ', st', h1, h2⟩
  ·exact ⟨σ', _, h1.put hd h2, h3⟩
  ·exact ⟨ps, rfl, σ', st', h1, h2⟩
variable {K : Kx}
section
variable {K : Kx}
end
section
variable {K : Kx}
end
variable {K : Kx}
variable {K : Kx}
section
variable {s : Sit} {σ2 : Nat → Option Value} {h2 : Nat → Option Obj'} {ids : Nat → Prop}
def Sit.with (s : Sit) (σ2 : Nat → Option Value) (h2 : Nat → Option Obj') : Sit := { s with σ := σ2, h := h2 }
theorem keep_relP (sf : ∀ b c, s.Safe b c → (s.with σ2 h2).Safe b c) {x : PV} {u : Value} (h : RelP s.Safe s.w x u) : RelP (s.with σ2 h2).Safe s.w x u := h.mono fun _ _ _ hz hc => ⟨sf _ _ hz, hc⟩
theorem keep_relC (hh : ∀ i, ids i → h2 i = s.h i) (hs : ∀ i, ids i → σ2 i = s.σ i) (sf : ∀ b c, s.Safe b c → (s.with σ2 h2).Safe b c) {c : AC} {u : Value} (h : RelC s c u) (hr : ∀ i ∈ refsC c, ids i) : RelC (s.with σ2 h2) c u := by
 cases c with
 | p x => exact keep_relP sf h
 | own t n =>
  have ht := hr t (by simp [refsC])
  obtain ⟨E, k, rows, sh, l, h1, h2, h3, h4, h5⟩ := h
  exact ⟨E, k, rows, sh, l, (hh t ht).trans h1, (hs t ht).trans h2, h3, h4, fun hl => ⟨(h5 hl).1, keep_relP sf (h5 hl).2⟩⟩
 | nil => exact h
 | box b o =>
  have ht := hr b (by simp [refsC])
  obtain ⟨cs, blk, h1, h2, h3⟩ := h
  exact ⟨cs, blk, (hh b ht).trans h1, (hs b ht).trans h2, h3⟩
 | ix row o =>
  obtain ⟨b, off, us, h1, h2⟩ := h
  exact ⟨b, off, us, h1, fun j c hj => ⟨sf _ _ (h2 j c hj).1, (h2 j c hj).2.1, keep_relP sf (h2 j c hj).2.2⟩⟩
 | oix t i o =>
  have ht := hr t (by simp [refsC])
  obtain ⟨E, k, rows, sh, l, h1, h2, h3⟩ := h
  exact ⟨E, k, rows, sh, l, (hh t ht).trans h1, (hs t ht).trans h2, h3⟩
 | fn f caps =>
  obtain ⟨us, h1, h2, h3⟩ := h
  refine ⟨us, h1, h2, fun j c hj => ?_⟩
  obtain ⟨x, hx, hr'⟩ := h3 j c hj
  refine ⟨x, hx, ?_⟩
  cases c with
  | box b =>
   have ht := hr b (by simp only [refsC, List.mem_flatMap]; exact ⟨.box b, List.mem_of_getElem? hj, by simp [refsCC]⟩)
   obtain ⟨cs, blk, h1, h2, h3⟩ := hr'
   exact ⟨cs, blk, (hh b ht).trans h1, (hs b ht).trans h2, h3⟩
  | p y => exact keep_relP sf hr'
 | any => exact h
 | memo m =>
  have ht := hr m (by simp [refsC])
  obtain ⟨P, k, I, b, h1, h2, h3⟩ := h
  exact ⟨P, k, I, b, (hh m ht).trans h1, (hs m ht).trans h2, h3⟩
 | yld m =>
  have ht := hr m (by simp [refsC])
  obtain ⟨r, b, h1, h2, h3⟩ := h
  exact ⟨r, b, (hh m ht).trans h1, (hs m ht).trans h2, h3⟩
 | raw m =>
  have ht := hr m (by simp [refsC])
  obtain ⟨b, o, h1, h2, h3⟩ := h
  exact ⟨b, o, (hh m ht).trans h1, (hs m ht).trans h2, h3⟩
 | bfn f first =>
  obtain ⟨us, h1, h2⟩ := h
  exact ⟨us, h1, h2.mono fun _ _ _ hz hc => ⟨sf _ _ hz, hc⟩⟩
 | ifc T b =>
  have ht := hr b (by simp [refsC])
  obtain ⟨cs, blk, h1, h2, h3⟩ := h
  exact ⟨cs, blk, (hh b ht).trans h1, (hs b ht).trans h2, h3⟩
 | bfx f b =>
  have ht := hr b (by simp [refsC])
  obtain ⟨cs, blk, h1, h2, h3⟩ := h
  exact ⟨cs, blk, (hh b ht).trans h1, (hs b ht).trans h2, h3⟩
theorem keep_relCs (hh : ∀ i, ids i → h2 i = s.h i) (hs : ∀ i, ids i → σ2 i = s.σ i) (sf : ∀ b c, s.Safe b c → (s.with σ2 h2).Safe b c) {cs : List AC} {us : Array Value} (h : RelCs s cs us) (hr : ∀ i ∈ cs.flatMap refsC, ids i) : RelCs (s.with σ2 h2) cs us :=
 ⟨h.1, fun j c hj => let ⟨x, hx, hc⟩ := h.2 j c hj; ⟨x, hx, keep_relC hh hs sf hc fun i hi => hr i (List.mem_flatMap.2 ⟨c, List.mem_of_getElem? hj, hi⟩)⟩⟩
theorem keep_relV (hh : ∀ i, ids i → h2 i = s.h i) (hs : ∀ i, ids i → σ2 i = s.σ i) (sf : ∀ b c, s.Safe b c → (s.with σ2 h2).Safe b c) {av : AV} {u : Value} (h : RelV s av u) (hr : ∀ i ∈ refsV av, ids i) : RelV (s.with σ2 h2) av u := by
 cases av with
 | one c => exact keep_relC hh hs sf h hr
 | agg cs => obtain ⟨us, h3, h4⟩ := h; exact ⟨us, h3, keep_relCs hh hs sf h4 hr⟩
 | tup rs =>
  obtain ⟨us, h3, h4⟩ := h
  exact ⟨us, h3, h4.mono fun _ _ _ hz hc => ⟨sf _ _ hz, hc⟩⟩
 | any => trivial
 | und => exact h
end
section
variable {K : Kx}
theorem clear_rel {σ : Nat → Option Value} {st : St} {a : Act} {w : World} (hr : Rel K σ st a w) {t : Nat} {E : TypeId} {k : Nat} {rows : List (List PV)} {val : Value} (ht : AL.get st.hp t = some (.arr E k rows false)) (hσ : σ t = some val)
  (hfr : ∀ t' av, AL.get st.fr t' = some av → t ∉ refsV av) (hob : ∀ id o, id ≠ t → AL.get st.hp id = some o → t ∉ refsO o) :
  ∃ val0, val0.ownBlock = val.ownBlock ∧ w.ownsRow K.w0.heap.size E k val0 0 [] ∧ Rel K (Pv.upd σ t val0) ⟨st.fr, AL.set st.hp t (.arr E k [] false), st.nx⟩ a w := by
 obtain ⟨val', xs, g1, g2, g3, g4⟩ := hr.heap.objs t _ ht
 have g1' : σ t = some val' := g1
 rw [hσ] at g1'; cases g1'
 have hlb := locBlk_own g2
 obtain ⟨val0, hb0, ho0⟩ : ∃ val0 : Value, val0.ownBlock = val.ownBlock ∧ w.ownsRow K.w0.heap.size E k val0 0 [] := by
  rcases g2.2 with ⟨rfl, _⟩ | ⟨g, cap, cur, rfl, q1, q2, q3, q4, q5, q6⟩
  ·exact ⟨.slice none 0 0, rfl, World.ownsRow_nil _ _ _ _⟩
  ·exact ⟨.slice (some ⟨g, 0, none⟩) 0 cap, rfl, by simp, .inr ⟨g, cap, cur, rfl, q1, q2, Nat.zero_le _, q4, q5, by simp⟩⟩
 have hl0 : locBlk val0 = locBlk val := by rw [locBlk_own ho0, hlb, hb0]
 refine ⟨val0, hb0, ho0, ?_⟩
 have hs : sit K (Pv.upd σ t val0) ⟨st.fr, AL.set st.hp t (.arr E k [] false), st.nx⟩ w = (sit K σ st w).with (Pv.upd σ t val0) (Pv.upd (AL.get st.hp) t (.arr E k [] false)) := by
  unfold sit Sit.with
  simp only [AL.get_set_upd]
 have hh : ∀ i, i ≠ t → Pv.upd (AL.get st.hp) t (.arr E k [] false) i = (sit K σ st w).h i := fun i hi => upd_other _ _ hi
 have hss : ∀ i, i ≠ t → Pv.upd σ t val0 i = (sit K σ st w).σ i := fun i hi => upd_other _ _ hi
 have sf : ∀ b c, (sit K σ st w).Safe b c → ((sit K σ st w).with (Pv.upd σ t val0) (Pv.upd (AL.get st.hp) t (.arr E k [] false))).Safe b c := by
  intro b c hb
  refine ⟨hb.1, fun id l hl hlk => ?_⟩
  by_cases e : id = t
  ·subst e
   have hl' : some val0 = some l := by rw [← hl]; exact (upd_same σ id val0).symm
   cases hl'
   obtain ⟨E', k', rows', q1, _⟩ := hb.2 id val hσ (by rw [← hl0]; exact hlk)
   have q1' : AL.get st.hp id = some (.arr E' k' rows' true) := q1
   rw [ht] at q1'; cases q1'
  ·have hl' : σ id = some l := by rw [← hl]; exact (upd_other _ _ e).symm
   obtain ⟨E', k', rows', q1, q2⟩ := hb.2 id l hl' hlk
   exact ⟨E', k', rows', (hh id e).trans q1, q2⟩
 have hV : ∀ {av : AV} {u : Value}, RelV (sit K σ st w) av u → t ∉ refsV av → RelV ((sit K σ st w).with (Pv.upd σ t val0) (Pv.upd (AL.get st.hp) t (.arr E k [] false))) av u := fun h hn => keep_relV (ids := fun i => i ≠ t) hh hss sf h fun i hi e => hn (e ▸ hi)
 refine ⟨⟨fun id o ho => ?_, fun id l hl => ?_, fun i i' l l' b hi hi' hb hb' => ?_, fun i l b hi hb => ?_⟩, fun t' av ht' => ⟨(hr.fr t' av ht').1, ?_⟩, fun id o ho => ?_, hr.df, hr.nt, hr.frm⟩
 ·rw [hs] at ho ⊢
  by_cases e : id = t
  ·subst e
   have ho' : some (Obj'.arr E k [] false) = some o := by rw [← ho]; exact (upd_same _ id _).symm
   cases ho'
   exact ⟨val0, [], upd_same _ _ _, ho0, fun i r hi => by simp at hi, fun i row j c hi hj => by simp at hi⟩
  ·have ho' : AL.get st.hp id = some o := by rw [← ho]; exact (upd_other _ _ e).symm
   have hn := hob id o e ho'
   have h0 := hr.heap.objs id o ho'
   cases o with
   | box cs =>
    obtain ⟨blk, vs, ty, h1, h2, h3⟩ := h0
    exact ⟨blk, vs, ty, (hss id e).trans h1, h2, keep_relCs (ids := fun i => i ≠ t) hh hss sf h3 fun i hi ee => hn (ee ▸ hi)⟩
   | arr E' k' rows' sh' =>
    obtain ⟨val, xs, h1, h2, h3, h4⟩ := h0
    exact ⟨val, xs, (hss id e).trans h1, h2, h3, fun i row j c hi hj => let ⟨u, hu, hru⟩ := h4 i row j c hi hj; ⟨u, hu, keep_relP sf hru⟩⟩
   | kept fr' tm =>
    refine ⟨(hss id e).trans h0.1, fun t2 av ht2 => ?_⟩
    exact hV (h0.2 t2 av ht2) fun hi => hn (List.mem_flatMap.2 ⟨(t2, av), AL.get_mem ht2, hi⟩)
   | memo P k I =>
    obtain ⟨b, h1, h2⟩ := h0
    exact ⟨b, (hss id e).trans h1, h2⟩
   | raw b o =>
    obtain ⟨l, h1, h2, h3⟩ := h0
    exact ⟨l, (hss id e).trans h1, h2, h3⟩
   | lp b r =>
    obtain ⟨h1, h2⟩ := h0
    exact ⟨(hss id e).trans h1, h2⟩
 ·rw [hs] at hl ⊢
  by_cases e : id = t
  ·subst e; exact ⟨_, upd_same _ _ _⟩
  ·obtain ⟨o, ho⟩ := hr.heap.dom id l (by rw [← hl]; exact (upd_other _ _ e).symm)
   exact ⟨o, (hh id e).trans ho⟩
 ·rw [hs] at hi hi'
  have up : ∀ {j : Nat} {l : Value}, Pv.upd σ t val0 j = some l → locBlk l = some b → ∃ l0, σ j = some l0 ∧ locBlk l0 = some b := fun {j l} hj hb => by
   by_cases e : j = t
   ·subst e
    rw [upd_same] at hj; cases hj
    exact ⟨val, hσ, by rw [← hl0]; exact hb⟩
   ·rw [upd_other _ _ e] at hj; exact ⟨l, hj, hb⟩
  obtain ⟨l1, h1, h2⟩ := up hi hb
  obtain ⟨l3, h3, h4⟩ := up hi' hb'
  exact hr.heap.inj i i' l1 l3 b h1 h3 h2 h4
 ·rw [hs] at hi
  by_cases e : i = t
  ·subst e
   have hi' : Pv.upd σ i val0 i = some l := hi
   rw [upd_same] at hi'; cases hi'
   exact hr.heap.lt i val b hσ (by rw [← hl0]; exact hb)
  ·exact hr.heap.lt i l b (by rw [← hi]; exact (upd_other _ _ e).symm) hb
 ·rw [hs]
  exact hV (hr.fr t' av ht').2 (hfr t' av ht')
 ·have ho' : AL.get (AL.set st.hp t (.arr E k [] false)) id = some o := ho
  rw [AL.get_set] at ho'
  split at ho'
  ·rename_i e; subst e; exact hr.lt _ _ ht
  ·exact hr.lt id o ho'
theorem evOps_then {ops : Array Oper} {Qr : Exit → Act → World → Prop} (hpan : ∀ e a' w', panA K e a' w' → Qr e a' w') : ∀ (l l2 : List Oper) (st : St) (σ : Nat → Option Value) (a : Act) (w : World) (Q : St → Prop), evOps K ops l st Q → Rel K σ st a w →
  (∀ σ' st' a' w', Q st' → Rel K σ' st' a' w' → wpListIn K.F 0 K.P ops Qr l2 a' w') → wpListIn K.F 0 K.P ops Qr (l ++ l2) a w
 | [], l2, st, σ, a, w, Q, h, hr, hq => hq σ st a w h hr
 | o :: r, l2, st, σ, a, w, Q, h, hr, hq => by
  unfold evOps at h
  rw [List.cons_append]
  unfold wpListIn
  split at h
  ·exact h.elim
  ·rename_i hw
   rw [wantedA_spec hr.fr hw]
   simp only [Bool.false_eq_true, if_false]
   exact ⟨fun _ _ => trivial, evOps_then hpan r l2 _ σ _ w Q h.2 (hr.put h.1 rfl) hq⟩
  ·rename_i hw
   rw [wantedA_spec hr.fr hw]
   simp only [if_true]
   obtain ⟨hd, h⟩ := h
   split at h
   ·rename_i av wr hop
    have hnd := opA_defer hop
    have hs := opA_sound (P := K.P) hr.heap hr.evF hr.frm.size hop (fun _ _ => hr.fresh (Nat.le_refl _))
    cases wr with
    | none =>
     obtain ⟨u, hu, hv⟩ := hs
     refine wpIn_of hnd ?_
     rw [show (execOp a.eval o).run K.P w = _ from hu]
     exact evOps_then hpan r l2 _ σ _ w Q h (hr.put hd hv) hq
    | some p =>
     obtain ⟨id, o'⟩ := p
     obtain ⟨n, u, l', w', hu, hn, hp, hv⟩ := hs
     refine wpIn_of hnd ?_
     rw [show (execOp a.eval o).run K.P w = _ from hu]
     rcases hn with rfl | ⟨rfl, rfl, rfl⟩
     ·exact evOps_then hpan r l2 _ _ _ w' Q h (hr.put_upd hp hd hv) hq
     ·exact evOps_then hpan r l2 _ _ _ w' Q h (hr.put_upd hp hd hv) hq
   ·rcases h with ⟨f, args, argTypes, fid, rvs, any, res, ho, ⟨hc1, hc2⟩, hfl, hfun, ⟨fn, hfn, hb, hnm⟩, h⟩ | ⟨_, h⟩
    ·obtain ⟨us, hus, hs0, _⟩ := fn_rel hr.evF hc1
     have hus0 : us = #[] := Array.eq_empty_of_size_eq_zero (by simpa using hs0)
     subst hus0
     have hargs := args_rel hr.heap hr.evF hc2
     have hrun : (execOp a.eval o).run K.P w = .ok (.enter fid (args.map a.eval)) w := by
      simp [execOp, ho, resolve, invoke, hus, Deferred.ofValue, run_callFunc hfn hb hnm]
     refine wpIn_of (by rw [ho]; intro c hc; cases hc) ?_
     rw [hrun, Oper.uponIn_enter]
     refine ⟨depth_K, callsIn_K ((hfun _ w _ hargs).mono fun e w' he => ?_)⟩
     obtain ⟨u, rfl, hru, hbel⟩ := he
     exact evOps_then hpan r l2 _ σ _ w' Q h ((hr.at hbel).put hd (avRR_rel (relRR_after hr hfl hru))) hq
    ·refine operIn_mono (h σ a w hr) (fun a' w' ⟨σ', st', hr', h⟩ => ?_) (fun e a' w' h => hpan e a' w' h)
     exact evOps_then hpan r l2 _ σ' _ w' Q h hr' hq
theorem aw_app {id : Nat} {l1 l2 : List Oper} {o : Oper} {Q : Exit → St → Prop} {st : St} (sa sx : Nat) (T : TypeId) (d : Nat)
  (ho : o.op = .call { callee := .builtin .append, args := #[.tmp sa, .tmp sx], argTypes := #[T, T] }) (hdst : o.dst = some d)
  (h : evOps K (l1 ++ o :: l2).toArray l1 st fun st1 => dstOK K (some d) = true ∧ wantedA (AL.get st1.fr) (l1 ++ o :: l2).toArray o = some true ∧ ∃ (t : Nat) (E : TypeId) (k by_ : Nat) (z : List AC) (rows xr : List (List PV)) (axv : AV) (slots ids : List Nat) (T2 : St),
   sliceElem K.P T = some E ∧ tySize K.P E = some k ∧ tyBytes K.P E = some by_ ∧ tyZero K.P E = some z ∧ 0 < k ∧ 0 < by_ ∧ z.length = k ∧ rowsK k xr ∧ (rows.length + xr.length) * by_ ≤ 140737488355328 ∧ xr ≠ [] ∧
   AL.get st1.fr sa = some (.one (.own t rows.length)) ∧ AL.get st1.hp t = some (.arr E k rows false) ∧ AL.get st1.fr sx = some axv ∧ rowsOfA (AL.get st1.hp) axv = some xr ∧
   (∀ (i : Nat) (row : List PV) (j : Nat) (c : PV), (rows ++ xr)[i]? = some row → row[j]? = some c → ∃ v, c = .v v) ∧
   restrict st1 slots ids st1.nx = some T2 ∧ t ∈ ids ∧ AL.get T2.hp t = some (.arr E k rows false) ∧ (∀ t' av, AL.get T2.fr t' = some av → t ∉ refsV av) ∧ (∀ id o, id ≠ t → AL.get T2.hp id = some o → t ∉ refsO o) ∧
   evOps K (l1 ++ o :: l2).toArray l2 ((St.upd ⟨T2.fr, AL.set T2.hp t (.arr E k [] false), T2.nx⟩ (some (t, .arr E k (rows ++ xr) false))).put (some d) (.one (.own t (rows.length + xr.length)))) (Q .normal)) :
  AW K (.region id (l1 ++ o :: l2).toArray false) Q st := by
 intro σ a w hr
 refine wpIn_region_lit ?_
 refine evOps_then (fun _ _ _ => .inr) l1 (o :: l2) st σ a w _ h hr fun σ st1 a w hq hr => ?_
 obtain ⟨hd, hw, t, E, k, by_, z, rows, xr, axv, slots, ids, T2, he, hes, hby, hz, h0, h0b, hzl, hkx, hb, hne, hsa, ht, hsx, hxr, hpl, hT2, htid, ht2, hfr, hob, hq⟩ := hq
 unfold wpListIn
 rw [wantedA_spec hr.fr hw]
 simp only [if_true]
 have hua := (hr.fr sa _ hsa).2
 have hux := (hr.fr sx _ hsx).2
 obtain ⟨E', k', rows', sh', val, xs, g1, g2, g3, g4, g5, g6, g7⟩ := own_cases hr.heap hua
 have g1' : AL.get st1.hp t = some (.arr E' k' rows' sh') := g1
 rw [ht] at g1'; cases g1'
 have huv : a.tmps.getD sa undef = val := by
  rcases g7 with ⟨_, g7⟩ | ⟨g7, _⟩
  ·exact g7
  ·omega
 have hs := rowsOfA_src hr.heap h0 hux hxr hkx
 obtain ⟨v', w', news, r1, r2, r3, r4, r5, r6, r7⟩ := run_append_src (s := sit K σ st1 w) (underlying_slice he) hes hby hz hzl h0 h0b o.type g3 hr.frm.size hs hb
 obtain ⟨hr2, -⟩ := restrict_rel slots ids st1.nx hT2 hr
 have g2' : σ t = some val := g2
 obtain ⟨val0, hb0, ho0, hr3⟩ := clear_rel hr2 (val := val) ht2 (by simp only [if_pos htid]; exact g2') hfr hob
 have hlx : xs.length = rows.length * k := g3.1
 have hcw : Cellwise (sit K (Pv.upd (fun i => if i ∈ ids then σ i else none) t val0) ⟨T2.fr, AL.set T2.hp t (.arr E k [] false), T2.nx⟩ w).Safe w k (rows ++ xr) (xs ++ news) := by
  intro i row j c hi hj
  obtain ⟨u, hu, hru⟩ := (Cellwise.append hlx g4 g5 r7) i row j c hi hj
  obtain ⟨v, rfl⟩ := hpl i row j c hi hj
  cases hru with
  | v _ h => exact ⟨_, hu, .v _ h⟩
 have hlen : (rows ++ xr).length = rows.length + xr.length := List.length_append
 obtain ⟨q1, q2⟩ := grow_arr (s := sit K (Pv.upd (fun i => if i ∈ ids then σ i else none) t val0) ⟨T2.fr, AL.set T2.hp t (.arr E k [] false), T2.nx⟩ w) hr3.heap (id := t) (E := E) (k := k) (rows := []) (more := rows ++ xr) (sh := false) (by simp [sit, AL.get_set_upd, upd_same]) (val := val0) (val' := v') (xs := []) (ys := xs ++ news) (w' := w') (by simp [sit, upd_same])
  (by simp) (fun i r hi => by simp at hi) (fun i row j c hi hj => by simp at hi) (locBlk_own ho0) ho0 (by rw [hlen, List.length_nil, Nat.zero_add, List.nil_append]; exact r2) (by rw [hb0]; exact r3) (fun g hg c u hc => by simp at hc) (fun b hb' => by rw [hb0]; exact r5 b hb') hr.frm.size (g4.append hkx) hcw false (.inl rfl) (fun h => by cases h) (fun hm => absurd (List.append_eq_nil_iff.1 hm).2 hne)
 rw [List.nil_append] at q1 q2
 have hlb0 : locBlk val0 = val0.ownBlock := locBlk_own ho0
 have hp : Put (sit K (Pv.upd (fun i => if i ∈ ids then σ i else none) t val0) ⟨T2.fr, AL.set T2.hp t (.arr E k [] false), T2.nx⟩ w) t (.arr E k (rows ++ xr) false) v' w' := ⟨q1, q2, fun b hb' hn => r3.block b hb' fun e => hn val0 (by simp [sit, upd_same]) (by rw [hlb0, hb0]; exact e.symm), r3.size, r3.os, r3.tape, r3.output⟩
 refine wpIn_of (by rw [ho]; intro c hc; cases hc) ?_
 have hrun : (execOp a.eval o).run K.P w = .ok (.value v') w' := by
  have r1' : (Builtin.append_ #[T, T] o.type #[a.tmps.getD sa undef, a.tmps.getD sx undef]).run K.P w = .ok v' w' := by rw [huv]; exact r1
  simp only [Array.getD_eq_getD_getElem?] at r1'
  simp [execOp, ho, resolve, invoke, builtin, Act.eval, r1']
 rw [hrun]
 have hrel := hr3.put_upd hp (dst := some d) (av := .one (.own t (rows.length + xr.length))) (v := v') hd ⟨E, k, rows ++ xr, false, v', by simp [Sit.put, upd_same], by simp [Sit.put, upd_same], by rw [hlen]; exact Nat.le_refl _, fun _ => rfl, fun hlt => absurd hlt (by rw [hlen]; exact Nat.lt_irrefl _)⟩
 rw [← hdst] at hrel hq
 exact evOps_sound (fun _ _ _ => .inr) l2 _ _ _ w' _ hq hrel fun σ' st' a' w' h1 h2 => .inl ⟨σ', st', h1, h2⟩
theorem weak_ownF {st : St} (d : Nat) (E k : Nat) (h : AL.get st.fr d = some (.one .nil)) : Weak K st ⟨AL.set st.fr d (.one (.own st.nx 0)), AL.set st.hp st.nx (.arr E k [] false), st.nx + 1⟩ := by
 intro σ a w hr
 have hnone := hr.fresh (Nat.le_refl _)
 obtain ⟨p1, p2⟩ := new_arr hr.heap (id := st.nx) hnone hr.frm.size (E := E) (k := k) (rows := []) false (val := .slice none 0 0) (xs := []) (w' := w) (World.ownsRow_nil w _ E k) ⟨rfl, rfl, rfl, Nat.le_refl _, fun _ _ _ => rfl⟩ (fun b hb => by cases hb) (fun i row hi => by simp at hi) (fun i row j c hi => by simp at hi)
 have hu := hr.upd (id := st.nx) (Turn.put (w' := w) p1 p2 (fun _ _ => rfl) (Nat.le_refl _) rfl rfl rfl)
 have hd := (hr.fr d _ h)
 have hval : a.tmps.getD d undef = .slice none 0 0 := hd.2
 simp only [St.upd, Nat.lt_irrefl, if_false] at hu
 refine ⟨_, hu.heap, fun t av ht => ?_, hu.lt, hr.df, hr.nt, hr.frm⟩
 have ht : AL.get (AL.set st.fr d (.one (.own st.nx 0))) t = some av := ht
 rw [AL.get_set] at ht
 split at ht
 ·rename_i he
  cases ht
  subst he
  refine ⟨hd.1, ?_⟩
  rw [hval]
  refine ⟨E, k, [], false, .slice none 0 0, ?_, upd_same σ st.nx _, Nat.le_refl _, fun _ => rfl, fun hlt => by simp at hlt⟩
  simp only [sit, AL.get_set, if_true]
 ·exact hu.fr t av ht
theorem fr_refs {fr : List (Nat × AV)} {t : Nat} (h : (fr.all fun p => !(refsV p.2).contains t) = true) : ∀ t' av, AL.get fr t' = some av → t ∉ refsV av := fun t' av ha hm => by
 have := List.all_eq_true.1 h _ (AL.get_mem ha)
 simp [hm] at this
theorem hp_refs {hp : List (Nat × Obj')} {t : Nat} (h : (hp.all fun p => decide (p.1 = t) || !(refsO p.2).contains t) = true) : ∀ id o, id ≠ t → AL.get hp id = some o → t ∉ refsO o := fun id o hi ho hm => by
 have := List.all_eq_true.1 h _ (AL.get_mem ho)
 simp [hm, hi] at this
end
end Go.Pv
