/- Texts of the proof, joined. -/
import Derived.Test.YthedkfiebmnghaaGreatKpv20
set_option linter.all false
namespace Go.Pv
open Go Go.RowKit Go.Sh
variable {K : Kx}
theorem relP_sliced {Z : Zn} {w : World} {rows : List (List PV)} {ao : Option Addr} {cap k l h : Nat} (hv : RelP Z w (.sl rows) (.slice ao rows.length cap)) (hk : rowsK k rows) (hlh : l ≤ h) (hhn : h ≤ rows.length) : rows.length ≤ cap ∧ RelP Z w (.sl ((rows.take h).drop l)) (sliced ao l h cap k) := by
 generalize hu : (Value.slice ao rows.length cap) = u at hv
 cases hv with
 | sl _ k' ao' cap' b off us hm hk' hao hc hz hrr =>
  cases hu
  refine ⟨hm.1, ?_⟩
  have hlen : ((rows.take h).drop l).length = h - l := by rw [List.length_drop, List.length_take]; omega
  have hget : ∀ (i : Nat) (row : List PV), ((rows.take h).drop l)[i]? = some row → rows[i + l]? = some row ∧ i < h - l := by
   intro i row hi
   have hi' := (List.getElem?_eq_some_iff.1 hi).1
   rw [List.getElem?_drop, List.getElem?_take] at hi
   rw [hlen] at hi'
   rw [if_pos (by omega), Nat.add_comm] at hi
   exact ⟨hi, hi'⟩
  have hkk : ∀ (i : Nat) (row : List PV), rows[i]? = some row → k' = k := fun i row hi => by rw [← hk' i row hi, hk i row hi]
  have := RelP.sl (Z := Z) (w := w) ((rows.take h).drop l) k (if cap = l then ao else ao.map (·.add (l * k))) (cap - l) b (off + l * k) (fun i j => us (i + l) j)
   (by rw [hlen]; omega)
   (fun i row hi => hk _ _ (hget i row hi).1)
   (fun hne => by
    have h0 : 0 < h - l := by rw [← hlen]; exact List.length_pos_iff.2 hne
    rw [if_neg (by omega), hao (by intro hn; rw [hn] at hhn; simp at hhn; omega)]
    simp only [Option.map_some, Addr.add]
    first | rfl | (split <;> simp_all))
   (fun i row j c hi hj => by
    have hg := hget i row hi
    have := hc (i + l) row j c hg.1 hj
    rw [hkk _ _ hg.1, Nat.add_mul] at this
    rw [show off + l * k + i * k + j = off + (i * k + l * k) + j by omega]
    exact this)
   (fun i row j c hi hj => by
    have hg := hget i row hi
    have := hz (i + l) row j c hg.1 hj
    rw [hkk _ _ hg.1, Nat.add_mul] at this
    rw [show off + l * k + i * k + j = off + (i * k + l * k) + j by omega]
    exact this)
   (fun i row j c hi hj => hrr (i + l) row j c (hget i row hi).1 hj)
  unfold sliced
  rw [hlen] at this
  exact this
theorem bnd_run {σ : Nat → Option Value} {st : St} {a : Act} {w : World} (hr : Rel K σ st a w) (y : Option Operand) (d m : Nat) (hy : bndA (AL.get st.fr) y d m) : (y = none ∧ m = d) ∨ ∃ z kk, y = some z ∧ a.eval z = .int kk (m : Int) := by
 cases y with
 | none => exact .inl ⟨rfl, hy⟩
 | some z =>
  obtain ⟨kk, hz⟩ := hy
  simp only [plain1, Option.bind_eq_some_iff] at hz
  obtain ⟨al, hal, hpl⟩ := hz
  exact .inr ⟨z, kk, rfl, plainOf_rel (hr.evF z al hal) hpl⟩
theorem callS_sliceG {st : St} {o : Oper} {Q : St → Prop} {T E : TypeId} {x : Operand} {lo hi : Option Operand} (hd : dstOK K o.dst = true) (ho : o.op = .slice T x lo hi none) {k : Nat} (hT : sliceElem K.P T = some E) (hE : tySize K.P E = some k)
  {rows : List (List PV)} (hx : evalA (AL.get st.fr) x = some (.one (.p (.sl rows)))) (hk : rowsK k rows) {l h : Nat} (h1 : bndA (AL.get st.fr) lo 0 l) (h2 : bndA (AL.get st.fr) hi rows.length h) (hlh : l ≤ h) (hhn : h ≤ rows.length) {rows2 : List (List PV)} (hr2 : (rows.take h).drop l = rows2)
  (hQ : Q (st.put o.dst (.one (.p (.sl rows2))))) : CallS K st o Q := by
 subst hr2
 intro σ a w hr
 refine wpIn_of (by rw [ho]; intro c hc; cases hc) ?_
 have hv : RelP (sit K σ st w).Safe w (.sl rows) (a.eval x) := hr.evF x _ hx
 have hu := underlying_slice hT
 obtain ⟨ao, cap, hg⟩ : ∃ ao cap, a.eval x = .slice ao rows.length cap := by
  generalize a.eval x = u at hv
  cases hv with
  | sl _ k' ao cap b off us hm hk' hao hc hz hrr => exact ⟨ao, cap, rfl⟩
 rw [hg] at hv
 have hel : K.P.underlying T = some (.slice (K.P.elem T)) := by
  rw [hu]; unfold Program.elem; rw [hu]
 have hsz := run_sizeOf' (P := K.P) hE w
 have hE' : K.P.elem T = E := by unfold Program.elem; rw [hu]
 obtain ⟨hcap, hrel⟩ := relP_sliced hv hk hlh hhn
 have hrun : (execOp a.eval o).run K.P w = .ok (.value (sliced ao l h cap k)) w := by
  rcases bnd_run hr lo 0 l h1 with ⟨rfl, rfl⟩ | ⟨z1, k1, rfl, e1⟩
  ·rcases bnd_run hr hi rows.length h h2 with ⟨rfl, rfl⟩ | ⟨z2, k2, rfl, e2⟩
   ·have := run_slice_all (P := K.P) w T ao rows.length cap hel
    rw [hE', hsz] at this
    simp only [Result.andThen] at this
    have h3 := run_sliceAt_slice (P := K.P) w T (.slice ao rows.length cap) none none none hel
    rw [this] at h3
    simp only [execOp, ho, hg, Option.map_none, Sem.run_bind, h3, Result.andThen]
    first | rfl | simp
   ·have := run_slice_h (P := K.P) w T ao rows.length cap hel k2 (h : Int) (by omega) (by omega)
    rw [hE', hsz] at this
    simp only [Result.andThen, Int.toNat_natCast] at this
    have h3 := run_sliceAt_slice (P := K.P) w T (.slice ao rows.length cap) none (some (.int k2 (h : Int))) none hel
    rw [this] at h3
    simp only [execOp, ho, hg, Option.map_some, Option.map_none, e2, Sem.run_bind, h3, Result.andThen]
    first | rfl | simp
  ·rcases bnd_run hr hi rows.length h h2 with ⟨rfl, rfl⟩ | ⟨z2, k2, rfl, e2⟩
   ·have := run_slice_l (P := K.P) w T ao rows.length cap hel k1 (l : Int) (by omega) (by omega)
    rw [hE', hsz] at this
    simp only [Result.andThen, Int.toNat_natCast] at this
    have h3 := run_sliceAt_slice (P := K.P) w T (.slice ao rows.length cap) (some (.int k1 (l : Int))) none none hel
    rw [this] at h3
    simp only [execOp, ho, hg, Option.map_some, Option.map_none, e1, Sem.run_bind, h3, Result.andThen]
    first | rfl | simp
   ·have := run_slice_lh (P := K.P) w T ao rows.length cap hel k1 k2 (l : Int) (h : Int) (by omega) (by omega) (by omega)
    rw [hE', hsz] at this
    simp only [Result.andThen, Int.toNat_natCast] at this
    have h3 := run_sliceAt_slice (P := K.P) w T (.slice ao rows.length cap) (some (.int k1 (l : Int))) (some (.int k2 (h : Int))) none hel
    rw [this] at h3
    simp only [execOp, ho, hg, Option.map_some, Option.map_none, e1, e2, Sem.run_bind, h3, Result.andThen]
    first | rfl | simp
 rw [hrun, Oper.uponIn_value]
 exact ⟨σ, _, hr.put hd (av := .one (.p (.sl ((rows.take h).drop l)))) hrel, hQ⟩
theorem callD_sliceG {l' : List Oper} {o : Oper} {r : List Oper} {st : St} {recs : List Rec} {Q : St → Prop} {T E : TypeId} {x : Operand} {lo hi : Option Operand} (hd : dstOK K o.dst = true) (ho : o.op = .slice T x lo hi none) {k : Nat} (hT : sliceElem K.P T = some E) (hE : tySize K.P E = some k)
  {rows : List (List PV)} (hx : evalA (AL.get st.fr) x = some (.one (.p (.sl rows)))) (hk : rowsK k rows) {l h : Nat} (h1 : bndA (AL.get st.fr) lo 0 l) (h2 : bndA (AL.get st.fr) hi rows.length h) (hlh : l ≤ h) (hhn : h ≤ rows.length) {rows2 : List (List PV)} (hr2 : (rows.take h).drop l = rows2)
  (hq : evDraw K l' r (st.put o.dst (.one (.p (.sl rows2)))) (recs ++ [(some [], [])]) Q) : CallD K l' o r st recs Q := by
 have hm : ∀ y, (some x = some y ∨ lo = some y ∨ hi = some y) → y ∈ o.op.operands.toList := fun y hy => by
  rw [ho]
  rcases hy with h | h | h
  ·cases h; simp [Op.operands]
  ·subst h; simp [Op.operands]
  ·subst h; simp [Op.operands]
 refine callD_read hd (by rw [ho]; rfl) [] _ (fun fr hp nx hkp hids => ?_) hq
 refine callS_sliceG (st := ⟨fr, hp, nx⟩) hd ho hT hE (rows := rows) ?_ hk (bndA_keep hkp (fun y hy => hm y (.inr (.inl hy))) h1) (bndA_keep hkp (fun y hy => hm y (.inr (.inr hy))) h2) hlh hhn hr2 rfl
 show evalA (AL.get fr) x = _
 rw [evalA_keep hkp (hm x (.inl rfl))]
 exact hx
end Go.Pv
namespace Go.Pv
open Go Go.RowKit Go.Sh Go.ChangeMaps
variable {K : Kx}
theorem aw_opS {id : Nat} {l1 l2 : List Oper} {o : Oper} {Q : Exit → St → Prop} {st : St}
  (h : evOps K (l1 ++ o :: l2).toArray l1 st fun st1 => wantedA (AL.get st1.fr) (l1 ++ o :: l2).toArray o = some true ∧ CallS K st1 o fun st2 => evOps K (l1 ++ o :: l2).toArray l2 st2 (Q .normal)) : AW K (.region id (l1 ++ o :: l2).toArray false) Q st := by
 intro σ a w hr
 refine wpIn_region_lit ?_
 refine evOps_then (fun _ _ _ => .inr) l1 (o :: l2) st σ a w _ h hr fun σ st1 a w hq hr => ?_
 obtain ⟨hw, hq⟩ := hq
 unfold wpListIn
 rw [wantedA_spec hr.fr hw]
 simp only [if_true]
 exact operIn_mono (hq σ a w hr) (fun a' w' ⟨σ', st', hr', h⟩ => evOps_sound (fun _ _ _ => .inr) l2 st' σ' a' w' _ h hr' fun σ' st' a' w' h1 h2 => .inl ⟨σ', st', h1, h2⟩) (fun e a' w' h => .inr h)
theorem callS_lenRaw {st : St} {o : Oper} {Q : St → Prop} {T k e : TypeId} {m : Operand} (hd : dstOK K o.dst = true) (ho : o.op = .call { callee := .builtin .len, args := #[m], argTypes := #[T] }) (ht : K.P.underlying T = some (.map k e)) {id b ck : Nat} {es : Array MapEntry}
  (h1 : evalA (AL.get st.fr) m = some (.one (.raw id))) (h2 : AL.get st.hp id = some (.raw b (.map es ck))) {n : Nat} (hn : es.size = n) (h : Q (st.put o.dst (.one (.p (.v (.int .i64 (n : Int))))))) : CallS K st o Q := by
 subst hn
 intro σ a w hr
 refine wpIn_of (by rw [ho]; intro c hc; cases hc) ?_
 obtain ⟨lv, g1, g2, g3, g4⟩ := hr.raw h1 h2
 have g3' : lv = .map (some b) := by simp [locRaw] at g3; exact g3.symm
 subst g3'
 have hrun : (execOp a.eval o).run K.P w = .ok (.value (.int .i64 (es.size : Int))) w := by
  simp [execOp, ho, g1, resolve, invoke, builtin, Builtin.len_, run_underlying ht, MapKept.run_getObj_map g4, goInt]
 rw [hrun, Oper.uponIn_value]
 exact ⟨σ, _, hr.put hd (av := .one (.p (.v (.int .i64 (es.size : Int))))) (RelP.v _ rfl), h⟩
end Go.Pv
namespace Go.Pv
open Go Go.RowKit Go.Sh
variable {K : Kx}
theorem evOne_sound {ops : Array Oper} {Qr : Exit → Act → World → Prop} (hpan : ∀ e a' w', panA K e a' w' → Qr e a' w') {o : Oper} {st : St} {σ : Nat → Option Value} {a : Act} {w : World} {Q : St → Prop} {C : Act → World → Prop} (h : evOps K ops [o] st Q) (hr : Rel K σ st a w)
  (hq : ∀ σ' st' a' w', Q st' → Rel K σ' st' a' w' → C a' w') : if Region.wanted o (yielded ops a.tmps) = true then o.wpIn K.F 0 K.P a w C Qr else (∀ f, o.about K.P w a.eval = some f → K.F.fn f) ∧ C (a.put o.dst undef) w := by
 unfold evOps at h
 split at h
 ·exact h.elim
 ·rename_i hw
  rw [wantedA_spec hr.fr hw]
  simp only [Bool.false_eq_true, if_false]
  exact ⟨fun _ _ => trivial, hq σ _ _ w h.2 (hr.put h.1 rfl)⟩
 ·rename_i hw
  rw [wantedA_spec hr.fr hw]
  simp only [if_true]
  obtain ⟨hd, h⟩ := h
  split at h
  ·rename_i av wr hop
   have hnd := opA_defer hop
   have hs := opA_sound (P := K.P) hr.heap hr.evF hr.frm.size hop (fun _ _ => hr.fresh (Nat.le_refl _))
   cases wr with
   | none =>
    obtain ⟨u, hu, hv⟩ := hs
    refine wpIn_of hnd ?_
    rw [show (execOp a.eval o).run K.P w = _ from hu]
    exact hq σ _ _ w h (hr.put hd hv)
   | some p =>
    obtain ⟨id, o'⟩ := p
    obtain ⟨n, u, l', w', hu, hn, hp, hv⟩ := hs
    refine wpIn_of hnd ?_
    rw [show (execOp a.eval o).run K.P w = _ from hu]
    rcases hn with rfl | ⟨rfl, rfl, rfl⟩
    ·exact hq _ _ _ w' h (hr.put_upd hp hd hv)
    ·exact hq _ _ _ w' h (hr.put_upd hp hd hv)
  ·rcases h with ⟨f, args, argTypes, fid, rvs, any, res, ho, ⟨hc1, hc2⟩, hfl, hfun, ⟨fn, hfn, hb, hnm⟩, h⟩ | ⟨_, h⟩
   ·obtain ⟨us, hus, hs0, _⟩ := fn_rel hr.evF hc1
    have hus0 : us = #[] := Array.eq_empty_of_size_eq_zero (by simpa using hs0)
    subst hus0
    have hargs := args_rel hr.heap hr.evF hc2
    have hrun : (execOp a.eval o).run K.P w = .ok (.enter fid (args.map a.eval)) w := by
     simp [execOp, ho, resolve, invoke, hus, Deferred.ofValue, run_callFunc hfn hb hnm]
    refine wpIn_of (by rw [ho]; intro c hc; cases hc) ?_
    rw [hrun, Oper.uponIn_enter]
    refine ⟨depth_K, callsIn_K ((hfun _ w _ hargs).mono fun e w' he => ?_)⟩
    obtain ⟨u, rfl, hru, hbel⟩ := he
    exact hq σ _ _ w' h ((hr.at hbel).put hd (avRR_rel (relRR_after hr hfl hru)))
   ·exact operIn_mono (h σ a w hr) (fun a' w' ⟨σ', st', hr', h⟩ => hq σ' st' a' w' h hr') (fun e a' w' h => hpan e a' w' h)
def evAny (K : Kx) (ops : Array Oper) (Q : St → Prop) : Nat → Array Bool → St → Prop
 | 0, listed, st => Region.ready .any ops listed = [] ∧ Q st
 | fuel + 1, listed, st => (Region.ready .any ops listed = [] → Q st) ∧ ∀ i ∈ Region.ready .any ops listed, ∀ o, ops[i]? = some o → evOps K ops [o] st (evAny K ops Q fuel (listed.setIfInBounds i true))
theorem evAny_end {ops : Array Oper} {Q : St → Prop} {listed : Array Bool} {st : St} (hr : Region.ready .any ops listed = []) (h : Q st) : ∀ fuel, evAny K ops Q fuel listed st
 | 0 => ⟨hr, h⟩
 | _ + 1 => ⟨fun _ => h, by rw [hr]; simp⟩
theorem evAny_one {ls : List Oper} {Q : St → Prop} {fuel : Nat} {listed : Array Bool} {st : St} {i : Nat} {o : Oper} (hr : Region.ready .any ls.toArray listed = [i]) (ho : ls[i]? = some o) (h : evOps K ls.toArray [o] st (evAny K ls.toArray Q fuel (listed.setIfInBounds i true))) : evAny K ls.toArray Q (fuel + 1) listed st := by
 refine ⟨fun h => (by rw [hr] at h; cases h), fun j hj o' ho' => ?_⟩
 rw [hr, List.mem_singleton] at hj
 subst hj
 rw [List.getElem?_toArray, ho] at ho'; cases ho'
 exact h
theorem evAny_two {ls : List Oper} {Q : St → Prop} {fuel : Nat} {listed : Array Bool} {st : St} {i j : Nat} {o p : Oper} (hr : Region.ready .any ls.toArray listed = [i, j]) (ho : ls[i]? = some o) (hp : ls[j]? = some p) (h : evOps K ls.toArray [o] st (evAny K ls.toArray Q fuel (listed.setIfInBounds i true))) (h2 : evOps K ls.toArray [p] st (evAny K ls.toArray Q fuel (listed.setIfInBounds j true))) : evAny K ls.toArray Q (fuel + 1) listed st := by
 refine ⟨fun h => (by rw [hr] at h; cases h), fun k hk o' ho' => ?_⟩
 rw [hr] at hk
 rcases List.mem_cons.1 hk with rfl | hk
 ·rw [List.getElem?_toArray, ho] at ho'; cases ho'; exact h
 ·rw [List.mem_singleton] at hk
  subst hk
  rw [List.getElem?_toArray, hp] at ho'; cases ho'; exact h2
theorem evAny_three {ls : List Oper} {Q : St → Prop} {fuel : Nat} {listed : Array Bool} {st : St} {i j k : Nat} {o p q : Oper} (hr : Region.ready .any ls.toArray listed = [i, j, k]) (ho : ls[i]? = some o) (hp : ls[j]? = some p) (hq : ls[k]? = some q) (h : evOps K ls.toArray [o] st (evAny K ls.toArray Q fuel (listed.setIfInBounds i true))) (h2 : evOps K ls.toArray [p] st (evAny K ls.toArray Q fuel (listed.setIfInBounds j true))) (h3 : evOps K ls.toArray [q] st (evAny K ls.toArray Q fuel (listed.setIfInBounds k true))) : evAny K ls.toArray Q (fuel + 1) listed st := by
 refine ⟨fun h => (by rw [hr] at h; cases h), fun l hl o' ho' => ?_⟩
 rw [hr] at hl
 rcases List.mem_cons.1 hl with rfl | hl
 ·rw [List.getElem?_toArray, ho] at ho'; cases ho'; exact h
 ·rcases List.mem_cons.1 hl with rfl | hl
  ·rw [List.getElem?_toArray, hp] at ho'; cases ho'; exact h2
  ·rw [List.mem_singleton] at hl
   subst hl
   rw [List.getElem?_toArray, hq] at ho'; cases ho'; exact h3
theorem evAny_sound {ops : Array Oper} {Qr : Exit → Act → World → Prop} (hpan : ∀ e a' w', panA K e a' w' → Qr e a' w') {Q : St → Prop} (hq : ∀ σ' st' a' w', Q st' → Rel K σ' st' a' w' → Qr .normal a' w') : ∀ (fuel : Nat) (listed : Array Bool) (st : St) (σ : Nat → Option Value) (a : Act) (w : World), evAny K ops Q fuel listed st → Rel K σ st a w → wpAnyIn K.F 0 K.P .any ops Qr fuel listed a w
 | 0, listed, st, σ, a, w, h, hr => ⟨h.1, hq σ st a w h.2 hr⟩
 | fuel + 1, listed, st, σ, a, w, h, hr => ⟨fun h0 => hq σ st a w (h.1 h0) hr, fun i hi => by
   unfold wpOpIn
   cases ho : ops[i]? with
   | none =>
    obtain ⟨_, o, h2, _⟩ := mem_ready.1 hi
    rw [ho] at h2; cases h2
   | some o => exact evOne_sound hpan (h.2 i hi o ho) hr fun σ' st' a' w' h1 h2 => evAny_sound hpan hq fuel _ st' σ' a' w' h1 h2⟩
theorem aw_any {id : Nat} {ops : Array Oper} {Q : Exit → St → Prop} {st : St} (hm : K.P.follows .mixedOrders = true) (h : evAny K ops (Q .normal) ops.size (Array.replicate ops.size false) st) : AW K (.region id ops true) Q st := by
 intro σ a w hr
 refine wpIn_region_any hm ?_
 exact evAny_sound (fun e a' w' hp => .inr hp) (fun σ' st' a' w' h1 h2 => .inl ⟨σ', st', h1, h2⟩) _ _ st σ a _ h (hr.at ⟨rfl, rfl, rfl, Nat.le_refl _, fun _ _ => rfl⟩)
end Go.Pv
