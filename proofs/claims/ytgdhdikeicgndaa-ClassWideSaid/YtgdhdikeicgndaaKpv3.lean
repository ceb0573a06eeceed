/- Kpv3: texts joined (PvE PvG PvP PvI PvS PvA PvB PvK PvO PvC). -/
import Derived.Test.YtgdhdikeicgndaaKpv2
import Derived.RecoverIn
import Derived.Test.YtgdhdikeicgndaaKpv1
import Derived.Laws.Slices
set_option linter.all false
/- A deferred function that recovers, and hands on what it has recovered to a function. Seat-independent. -/
namespace Go.Pv
open Go Go.RowKit Go.Sh

end Go.Pv
/- Scopes without jumps; yields that leave the caller's objects as T has them. Seat-independent. -/
namespace Go.Pv
open Go Go.RowKit Go.Sh
variable {K : Kx}

/-- No jump to a label. -/
def noG (Q : Exit → St → Prop) : Exit → St → Prop
  | .goto _, _ => False
  | e, st => Q e st
theorem nog_n {Q : Exit → St → Prop} {st : St} (h : Q .normal st) : noG Q .normal st := h
theorem nog_r {Q : Exit → St → Prop} {st : St} (h : Q .ret st) : noG Q .ret st := h
theorem aw_scope {c : Code} {Q : Exit → St → Prop} {st : St} (hrd : K.rd = none) (h : AW K c (noG Q) st) : AW K (.scope c) Q st := by
  intro σ a w hr
  have hF : K.F = Fence.wide := by unfold Kx.F; rw [hrd]; rfl
  have h1 := h σ a w hr
  rw [hF] at h1 ⊢
  refine wpIn_wide.2 (wp_scope_straight (Go.wp_mono (wpIn_wide.1 h1) fun e a' w' hp => ?_))
  rcases hp with ⟨σ', st', h1, h2⟩ | ⟨ps, rfl, hp⟩
  · cases e <;> first
      | exact .inl ⟨σ', st', h1, h2⟩
      | exact h1.elim
  · exact .inr ⟨ps, rfl, hp⟩

theorem Closed.put {st : St} (h : Closed st) (d : Option Tmp) {av : AV} (hr : There (AL.get st.hp) (refsV av)) : Closed (st.put d av) := by
  cases d with
  | none => exact h
  | some d =>
    refine ⟨h.lt, fun t x ht => ?_, h.obj, h.kept⟩
    have ht : AL.get (AL.set st.fr d av) t = some x := ht
    rw [AL.get_set] at ht
    split at ht
    · cases ht; exact hr
    · exact h.fr t x ht

/-- A memory that takes an entry, in a region that draws. -/
theorem turns_update {l : List Oper} {st : St} {o : Oper} {T k e : TypeId} {m kx vx : Operand} (hd : dstOK K o.dst = true) (ho : o.op = .mapUpdate T m kx vx) (KL : WideMaps.KeyLaw K.P k) (ht : K.P.underlying T = some (.map k e)) {id : Nat} {I : MI} (I' : MI)
    (h1 : evalA (AL.get st.fr) m = some (.one (.memo id))) (h2 : AL.get st.hp id = some (.memo K.P k I)) {kv vv : Value} {lt : Lit} (h3 : plain1 (AL.get st.fr) kx = some kv) (h4 : plain1 (AL.get st.fr) vx = some vv) (hk : keyOf K.P k kv = some lt) (hI : I'.yes kv vv) (hy : ∀ a b, a ≠ kv → I.yes a b → I'.yes a b) (ha : ∀ a b, I'.all a b → (a = kv ∧ b = vv) ∨ (a ≠ kv ∧ I.all a b)) (hid : id < st.nx) :
    TurnsA K l st o [id] .und (AL.set st.hp id (.memo K.P k I')) st.nx := by
  refine ⟨fun i hi => by rw [AL.get_set, if_neg (by simpa using hi)], Nat.le_refl _, fun i h => (by simp at h; subst h; exact hid), fun fr hkp => callS_update hd ho KL ht I' (id := id) (st := ⟨fr, st.hp, st.nx⟩) ?_ h2 ?_ ?_ hk hI hy ha (by simp [St.upd, hid])⟩
  · show evalA (AL.get fr) m = _
    rw [evalA_keep hkp (by simp [ho, Op.operands])]; exact h1
  · show plain1 (AL.get fr) kx = _
    unfold plain1 at h3 ⊢
    rw [evalA_keep hkp (by simp [ho, Op.operands])]; exact h3
  · show plain1 (AL.get fr) vx = _
    unfold plain1 at h4 ⊢
    rw [evalA_keep hkp (by simp [ho, Op.operands])]; exact h4

/-- One object more. -/
theorem Closed.new {st : St} (h : Closed st) {id nx' : Nat} {o : Obj'} (hid : st.nx ≤ id) (hn : id < nx') (hk : ∀ fr tm, o ≠ .kept fr tm) (hr : There (AL.get st.hp) (refsO o)) : Closed ⟨st.fr, (id, o) :: st.hp, nx'⟩ := by
  have hd : ∀ {l : List Nat}, There (AL.get st.hp) l → There (AL.get ((id, o) :: st.hp)) l := by
    intro l hl i hi
    obtain ⟨x, hx⟩ := hl i hi
    rw [show AL.get ((id, o) :: st.hp) i = if i = id then some o else AL.get st.hp i from rfl]
    split
    · exact ⟨_, rfl⟩
    · exact ⟨x, hx⟩
  have key : ∀ {i : Nat} {x : Obj'}, AL.get ((id, o) :: st.hp) i = some x → (i = id ∧ x = o) ∨ AL.get st.hp i = some x := by
    intro i x hx
    rw [show AL.get ((id, o) :: st.hp) i = if i = id then some o else AL.get st.hp i from rfl] at hx
    split at hx
    · cases hx; exact .inl ⟨by assumption, rfl⟩
    · exact .inr hx
  refine ⟨fun i x hx => ?_, fun t av ht => hd (h.fr t av ht), fun i x hx hk' => ?_, fun i fr tm hx t av ht => ?_⟩
  · rcases key hx with ⟨rfl, _⟩ | hx
    · exact hn
    · exact Nat.lt_trans (Nat.lt_of_lt_of_le (h.lt _ _ hx) hid) hn
  · rcases key hx with ⟨_, rfl⟩ | hx
    · exact hd hr
    · exact hd (h.obj i x hx hk')
  · rcases key hx with ⟨_, rfl⟩ | hx
    · exact absurd rfl (hk fr tm)
    · exact hd (h.kept i fr tm hx t av ht)

section
variable {l : List Oper} {rest : List Oper} {st : St} {o : Oper} {Q : St → Prop} {recs : List Rec} {f : Operand} {args : Array Operand} {argTypes : Array TypeId} {fid : FuncId} {caps : List CC} {avs : List AV} {fn : Func}
theorem callD_F (ch : List Nat) (av : AV) (hp2 : List (Nat × Obj')) (nx2 : Nat) (hd : dstOK K o.dst = true) (ho : o.op = .call { callee := .value f, args := args, argTypes := argTypes }) (h1 : (evalA (AL.get st.fr) f).bind fnA = some (fid, caps)) (h2 : mapO (evalA (AL.get st.fr)) args.toList = some avs)
    (h5 : K.P.funcs[fid]? = some fn) (h6 : fn.body.isSome = true) (h7 : fn.name ≠ "runtime.NumGoroutine") (hc : ∀ id, id ∉ ch → AL.get hp2 id = AL.get st.hp id) (hn : st.nx ≤ nx2) (hlt : ∀ id ∈ ch, id < nx2)
    (hF : ∀ fr, (∀ t, keepT l o t = true → AL.get fr t = AL.get st.fr t) → CallF K fid (avs ++ caps.map capV) ⟨fr, st.hp, st.nx⟩ fun st' av' => st' = ⟨fr, hp2, nx2⟩ ∧ av' = av)
    (h : evDraw K l rest (St.put ⟨st.fr, hp2, nx2⟩ o.dst av) (recs ++ [(none, ch)]) Q) : CallD K l o rest st recs Q :=
  callD_turn hd (by rw [ho]; rfl) ch av hp2 nx2 (turns_of ch av hp2 nx2 hd ho h1 h2 h5 h6 h7 hc hn hlt hF) h
theorem callD_FX (hd : dstOK K o.dst = true) (ho : o.op = .call { callee := .value f, args := args, argTypes := argTypes }) (h1 : (evalA (AL.get st.fr) f).bind fnA = some (fid, caps)) (h2 : mapO (evalA (AL.get st.fr)) args.toList = some avs)
    (h5 : K.P.funcs[fid]? = some fn) (h6 : fn.body.isSome = true) (h7 : fn.name ≠ "runtime.NumGoroutine")
    (hF : ∀ fr, (∀ t, keepD l recs.length o t = true → AL.get fr t = AL.get st.fr t) → CallF K fid (avs ++ caps.map capV) ⟨fr, st.hp, st.nx⟩ fun _ _ => False)
    (h : evDead K l recs.length rest st (recs ++ [(none, [])])) : CallD K l o rest st recs Q :=
  callD_pan hd (by rw [ho]; rfl) (fun fr hk => by
    obtain ⟨g1, g2⟩ := callee_keep (fun t h => hk t (keepD_of h)) ho h1 h2
    exact callS_of hd ho fid g1 g2 h5 h6 h7 ((hF fr hk).mono fun _ _ h => h.elim)) h
end

/-- All objects, each once; of the slots those that are asked for. -/
def nub : List Nat → List Nat
  | [] => []
  | i :: r => if (nub r).contains i = true then nub r else i :: nub r
def keepA (st : St) (slots : List Nat) : Option St := restrict st (there st.fr slots) (nub (keys st.hp)) st.nx
theorem weak_keepA {st st' : St} (slots : List Nat) (h : keepA st slots = some st') : Weak K st st' := weak_restrict _ _ _ h
end Go.Pv
/- A call of a function of data that panics, in a region that draws its order. -/
namespace Go.Pv
open Go Go.RowKit Go.Sh
variable {K : Kx}
/-- A function that is bound to the address of a box: a call in a state. -/
theorem callS_bfx {st : St} {o : Oper} {Q : St → Prop} {f : Operand} {args : Array Operand} {argTypes : Array TypeId} (hd : dstOK K o.dst = true) (ho : o.op = .call { callee := .value f, args := args, argTypes := argTypes })
    {b : Nat} (fid : FuncId) (h1 : evalA (AL.get st.fr) f = some (.one (.bfx fid b)))
    {avs : List AV} (h2 : mapO (evalA (AL.get st.fr)) args.toList = some avs)
    {fn : Func} (h5 : K.P.funcs[fid]? = some fn) (h6 : fn.body.isSome = true) (h7 : fn.name ≠ "runtime.NumGoroutine") (h : CallF K fid (.one (.box b 0) :: avs) st fun st' av => Q (st'.put o.dst av)) : CallS K st o Q := by
  intro σ a w hr
  obtain ⟨cs, blk, g1, g2, hv⟩ := hr.evF f _ h1
  rw [← mapM_eq] at h2
  obtain ⟨hl, ha⟩ := mapM_get h2
  have hrun : (execOp a.eval o).run K.P w = .ok (.enter fid (#[.pointer (some ⟨blk, 0, none⟩)] ++ args.map a.eval)) w := by
    simp [execOp, ho, resolve, invoke, hv, Deferred.ofValue, run_callFunc h5 h6 h7]
  have hl' : args.size = avs.length := by simpa using hl.symm
  refine wpIn_of (by rw [ho]; intro c hc; cases hc) ?_
  rw [hrun, Oper.uponIn_enter]
  refine ⟨depth_K, callsIn_K ((h σ a w _ hr ⟨by simp [hl']; omega, fun j x hj => ?_⟩).mono fun e w' he => ?_)⟩
  · cases j with
    | zero =>
      simp at hj; subst hj
      exact ⟨_, by rw [Array.getElem?_append_left (by simp)]; rfl, cs, blk, g1, g2, rfl⟩
    | succ j =>
      rw [List.getElem?_cons_succ] at hj
      obtain ⟨y, hy, hf⟩ := ha j x hj
      have hy' : args[j]? = some y := by simpa using hy
      refine ⟨a.eval y, ?_, hr.evF y x hf⟩
      rw [Array.getElem?_append_right (by rw [Array.size_singleton]; omega)]
      simp [hy']
  · rcases he with ⟨u, rfl, σ', st', av, h1, h2, h3⟩ | ⟨ps, rfl, σ', st', h1, h2⟩
    · exact ⟨σ', _, h1.put hd h2, h3⟩
    · exact ⟨ps, rfl, σ', st', h1, h2⟩
/-- A state of some objects only. -/
theorem weak_sub {st T : St} (hfr : ∀ t av, AL.get T.fr t = some av → AL.get st.fr t = some av) (hhp : ∀ id o, AL.get T.hp id = some o → AL.get st.hp id = some o) (hc : Closed T) : Weak K st T := fun σ a w hr => by
  obtain ⟨σ', h, _⟩ := rel_sub hr hfr hhp hc.lt hc.fr hc.obj hc.kept
  exact ⟨σ', h⟩
end Go.Pv
/- A box whose cells are data is given up: its address is data from then on. Printed by genPvI.py. -/
namespace Go.Pv
open Go Go.RowKit Go.Sh
variable {K : Kx}
theorem restrict_rel {st st' : St} (slots ids : List Nat) (nx : Nat) (h : restrict st slots ids nx = some st') {σ : Nat → Option Value} {a : Act} {w : World} (hr : Rel K σ st a w) : Rel K (fun i => if i ∈ ids then σ i else none) st' a w ∧ ∀ i, AL.get st'.hp i = if i ∈ ids then (sit K σ st w).h i else none := by
  unfold restrict at h
  simp only [Option.bind_eq_some_iff] at h
  obtain ⟨fr, hfr, hp, hhp, h⟩ := h
  split at h
  · rename_i hc
    obtain ⟨hc1, hc2, hc3⟩ := hc
    cases h
    have hh : ∀ i, AL.get hp i = if i ∈ ids then (sit K σ st w).h i else none := takeAL_get hhp
    have hs : sit K (fun i => if i ∈ ids then σ i else none) ⟨fr, hp, nx⟩ w = (sit K σ st w).sub ids (AL.get hp) := rfl
    refine ⟨⟨⟨fun id o ho => ?_, fun id l hl => ?_, fun i i' l l' b hi hi' hb hb' => ?_, fun i l b hi hb => ?_⟩, fun t av ht => ?_, fun id o ho => ?_, hr.df, hr.nt, hr.frm⟩, hh⟩
    · have ho' : AL.get hp id = some o := ho
      have hmem := takeAL_mem hhp id o ho'
      have hrefs := allRefs_spec (List.all_eq_true.1 hc2 _ hmem)
      rw [hh] at ho'
      split at ho'
      · rename_i hid
        have h0 := hr.heap.objs id o ho'
        rw [hs]
        cases o with
        | box cs =>
          obtain ⟨blk, vs, ty, h1, h2, h3⟩ := h0
          exact ⟨blk, vs, ty, by show (if id ∈ ids then σ id else none) = _; rw [if_pos hid]; exact h1, h2, sub_relCs hh h3 hrefs⟩
        | arr E k rows sh =>
          obtain ⟨val, xs, h1, h2, h3, h4⟩ := h0
          exact ⟨val, xs, by show (if id ∈ ids then σ id else none) = _; rw [if_pos hid]; exact h1, h2, h3, fun i row j c hi hj => let ⟨u, hu, hru⟩ := h4 i row j c hi hj; ⟨u, hu, sub_relP hh hru⟩⟩
        | kept fr' tm =>
          refine ⟨by show (if id ∈ ids then σ id else none) = none; rw [if_pos hid]; exact h0.1, fun t av ht => ?_⟩
          exact sub_relV hh (h0.2 t av ht) fun i hi => hrefs i (List.mem_flatMap.2 ⟨(t, av), AL.get_mem ht, hi⟩)
        | memo P k I =>
          obtain ⟨b, h1, h2⟩ := h0
          exact ⟨b, by show (if id ∈ ids then σ id else none) = _; rw [if_pos hid]; exact h1, h2⟩
        | raw b o =>
          obtain ⟨l, h1, h2, h3⟩ := h0
          exact ⟨l, by show (if id ∈ ids then σ id else none) = _; rw [if_pos hid]; exact h1, h2, h3⟩
        | lp b r =>
          obtain ⟨h1, h2⟩ := h0
          exact ⟨by show (if id ∈ ids then σ id else none) = _; rw [if_pos hid]; exact h1, h2⟩
      · cases ho'
    · simp only [sit] at hl ⊢
      split at hl
      · rename_i hid
        obtain ⟨o, ho⟩ := hr.heap.dom id l hl
        exact ⟨o, by rw [hh, if_pos hid]; exact ho⟩
      · cases hl
    · simp only [sit] at hi hi'
      split at hi
      · split at hi'
        · exact hr.heap.inj i i' l l' b hi hi' hb hb'
        · cases hi'
      · cases hi
    · simp only [sit] at hi
      split at hi
      · exact hr.heap.lt i l b hi hb
      · cases hi
    · have hmem := takeAL_mem hfr t av ht
      have hrefs := allRefs_spec (List.all_eq_true.1 hc1 _ hmem)
      have ht' : AL.get st.fr t = some av := by
        have h2 : AL.get fr t = some av := ht
        rw [takeAL_get hfr] at h2
        split at h2
        · exact h2
        · cases h2
      obtain ⟨h1, h2⟩ := hr.fr t av ht'
      refine ⟨h1, ?_⟩
      rw [hs]
      cases av with
      | one c => exact sub_relC hh h2 hrefs
      | agg cs => obtain ⟨us, h3, h4⟩ := h2; exact ⟨us, h3, sub_relCs hh h4 hrefs⟩
      | tup rs =>
        obtain ⟨us, h3, h4⟩ := h2
        exact ⟨us, h3, h4.mono fun _ _ _ hz hc => ⟨sub_safe hh hz, hc⟩⟩
      | any => trivial
      | und => exact h2
    · have h2 : AL.get hp id = some o := ho
      rw [takeAL_get hhp] at h2
      split at h2
      · rename_i hid
        have := List.all_eq_true.1 hc3 id hid
        simpa using this
      · cases h2
  · cases h


theorem weak_give {st T : St} (d b : Nat) (row : List PV) (slots ids : List Nat) (nx : Nat) (h : restrict st slots ids nx = some T) (hb : AL.get st.hp b = some (.box (row.map .p))) (hd : AL.get st.fr d = some (.one (.box b 0))) (hbi : b ∉ ids) (hcap : ∀ x, ¬ K.cap x) : Weak K st ⟨AL.set T.fr d (.one (.p (.ptr row))), T.hp, T.nx⟩ := by
  intro σ a w hr
  obtain ⟨hr', hh⟩ := restrict_rel slots ids nx h hr
  have hs : sit K (fun i => if i ∈ ids then σ i else none) T w = (sit K σ st w).sub ids (AL.get T.hp) := rfl
  refine ⟨_, hr'.heap, fun t av ht => ?_, hr'.lt, hr'.df, hr'.nt, hr'.frm⟩
  have ht' : AL.get (AL.set T.fr d (.one (.p (.ptr row)))) t = some av := ht
  rw [AL.get_set] at ht'
  split at ht'
  · rename_i e
    cases ht'
    subst e
    obtain ⟨g1, cs, blk, g2, g3, g4⟩ := hr.fr t _ hd
    refine ⟨g1, ?_⟩
    obtain ⟨blk', vs, ty, e3, e4, e5⟩ := hr.heap.objs b _ hb
    rw [g3] at e3; cases e3
    show RelP (sit K (fun i => if i ∈ ids then σ i else none) T w).Safe w (.ptr row) _
    rw [g4]
    have hcell : ∀ (j : Nat) (c : PV), row[j]? = some c → ∃ x, vs[j]? = some x ∧ RelP (sit K σ st w).Safe w c x := by
      intro j c hj
      obtain ⟨x, hx, hrx⟩ := e5.2 j (.p c) (by rw [List.getElem?_map, hj]; rfl)
      exact ⟨x, hx, hrx⟩
    have hbase : K.w0.heap.size ≤ blk := by
      rcases (hr.heap.lt b _ blk g3 rfl).2 with h | h
      · exact h
      · exact absurd h (hcap _)
    refine .ptr row blk 0 (fun j => (vs[j]?).getD default) (fun j c hj => ?_) (fun j c hj => ⟨.inr hbase, fun id l hl hlb => ?_⟩) (fun j c hj => ?_)
    · obtain ⟨x, hx, _⟩ := hcell j c hj
      rw [cell_of_row w blk _ vs ty (0, 0) e4, Nat.zero_add, hx]; rfl
    · exfalso
      have hl' : (if id ∈ ids then σ id else none) = some l := hl
      split at hl'
      · rename_i hid
        have := hr.heap.inj id b l _ blk hl' g3 hlb rfl
        exact hbi (this ▸ hid)
      · cases hl'
    · obtain ⟨x, hx, hrx⟩ := hcell j c hj
      show RelP _ _ _ ((vs[j]?).getD default)
      rw [hx, hs]
      exact sub_relP hh hrx
  · exact hr'.fr t av ht'
end Go.Pv
/- Slice expressions on data. -/
namespace Go.Pv
open Go Go.RowKit Go.Sh
variable {K : Kx}
end Go.Pv
/- Slices of arrays that are data. -/
namespace Go.Pv
open Go Go.RowKit Go.Sh
variable {K : Kx}
theorem relP_slicedAt {Z : Zn} {w : World} {row : List PV} {rows : List (List PV)} {b off k l h n : Nat} {us : Nat → Value}
    (hc : ∀ (j : Nat) (c : PV), row[j]? = some c → Z b (off + j) ∧ w.cell? ⟨b, off + j, none⟩ = some (us j) ∧ RelP Z w c (us j)) (o : Nat)
    (hrows : ∀ (i : Nat) (r : List PV) (j : Nat) (c : PV), rows[i]? = some r → r[j]? = some c → row[o + i * k + j]? = some c) (hk : rowsK k rows) (hn : rows.length = n) (hmax : n ≤ 9223372036854775807) (hlh : l ≤ h) (hhn : h ≤ n) :
    RelP Z w (.sl ((rows.take h).drop l)) (slicedAt ⟨b, off + o, none⟩ l h n k) := by
  have hlen : ((rows.take h).drop l).length = h - l := by rw [List.length_drop, List.length_take]; omega
  have hget : ∀ (i : Nat) (r : List PV), ((rows.take h).drop l)[i]? = some r → rows[i + l]? = some r ∧ i < h - l := by
    intro i r hi
    have hi' := (List.getElem?_eq_some_iff.1 hi).1
    rw [List.getElem?_drop, List.getElem?_take] at hi
    rw [hlen] at hi'
    rw [if_pos (by omega), Nat.add_comm] at hi
    exact ⟨hi, hi'⟩
  have hcc : ∀ (i : Nat) (r : List PV) (j : Nat) (c : PV), ((rows.take h).drop l)[i]? = some r → r[j]? = some c → row[o + (i + l) * k + j]? = some c := fun i r j c hi hj => hrows (i + l) r j c (hget i r hi).1 hj
  have := RelP.sl (Z := Z) (w := w) ((rows.take h).drop l) k (some (if n = l then (⟨b, off + o, none⟩ : Addr) else (⟨b, off + o, none⟩ : Addr).add (l * k))) (n - l) b (off + o + l * k) (fun i j => us (o + (i + l) * k + j))
    (by rw [hlen]; omega)
    (fun i r hi => hk _ _ (hget i r hi).1)
    (fun hne => by
      have h0 : 0 < h - l := by rw [← hlen]; exact List.length_pos_iff.2 hne
      rw [if_neg (by omega)]
      simp only [Addr.add]
      first | rfl | (split <;> simp_all))
    (fun i r j c hi hj => by
      have := (hc _ _ (hcc i r j c hi hj)).2.1
      rw [Nat.add_mul] at this ⊢
      rw [show off + o + l * k + i * k + j = off + (o + (i * k + l * k) + j) by omega]
      exact this)
    (fun i r j c hi hj => by
      have := (hc _ _ (hcc i r j c hi hj)).1
      rw [Nat.add_mul] at this
      rw [show off + o + l * k + i * k + j = off + (o + (i * k + l * k) + j) by omega]
      exact this)
    (fun i r j c hi hj => (hc _ _ (hcc i r j c hi hj)).2.2)
  unfold slicedAt
  rw [hlen] at this
  exact this
/-- A bound of a slice expression. -/
def bndA (fr : Nat → Option AV) (x : Option Operand) (dflt n : Nat) : Prop := match x with
  | none => n = dflt
  | some x => ∃ k, plain1 fr x = some (.int k (n : Int))
theorem callS_sliceA {st : St} {o : Oper} {Q : St → Prop} {T E : TypeId} {x : Operand} {lo hi : Option Operand} (hd : dstOK K o.dst = true) (ho : o.op = .slice T x lo hi none) {n k : Nat} (hT : arrElem K.P T = some (n, E)) (hE : tySize K.P E = some k)
    {row : List PV} {off : Nat} (hx : evalA (AL.get st.fr) x = some (.one (.ix row off)) ∨ (evalA (AL.get st.fr) x = some (.one (.p (.ptr row))) ∧ off = 0)) (rows : List (List PV))
    (hrows : ∀ (i : Nat) (r : List PV) (j : Nat) (c : PV), rows[i]? = some r → r[j]? = some c → row[off + i * k + j]? = some c) (hk : rowsK k rows) (hn : rows.length = n) (hmax : n ≤ 9223372036854775807)
    {l h : Nat} (h1 : bndA (AL.get st.fr) lo 0 l) (h2 : bndA (AL.get st.fr) hi n h) (hlh : l ≤ h) (hhn : h ≤ n)
    (hQ : Q (st.put o.dst (.one (.p (.sl ((rows.take h).drop l)))))) : CallS K st o Q := by
  intro σ a w hr
  refine wpIn_of (by rw [ho]; intro c hc; cases hc) ?_
  have hu := underlying_arr hT
  have hl : K.P.arrayLen T = n := by unfold Program.arrayLen; rw [hu]
  have he : K.P.elem T = E := by unfold Program.elem; rw [hu]
  have hu' : K.P.underlying T = some (.array (K.P.arrayLen T) (K.P.elem T)) := by rw [hl, he]; exact hu
  have hsz := run_sizeOf' (P := K.P) hE w
  obtain ⟨b, o0, us, hg, hc⟩ : ∃ (b o0 : Nat) (us : Nat → Value), a.eval x = .pointer (some ⟨b, o0 + off, none⟩) ∧ ∀ (j : Nat) (c : PV), row[j]? = some c → (sit K σ st w).Safe b (o0 + j) ∧ w.cell? ⟨b, o0 + j, none⟩ = some (us j) ∧ RelP (sit K σ st w).Safe w c (us j) := by
    rcases hx with hx | ⟨hx, rfl⟩
    · obtain ⟨b, o0, us, h1, h2⟩ := hr.evF x _ hx
      exact ⟨b, o0, us, h1, h2⟩
    · have hv : RelP (sit K σ st w).Safe w (.ptr row) (a.eval x) := hr.evF x _ hx
      generalize hg : a.eval x = u at hv
      cases hv with
      | ptr _ b o0 us hc hz hrr => exact ⟨b, o0, us, rfl, fun j c hj => ⟨hz j c hj, hc j c hj, hrr j c hj⟩⟩
  have hbd : ∀ (y : Option Operand) (d m : Nat), bndA (AL.get st.fr) y d m → (y = none ∧ m = d) ∨ ∃ z kk, y = some z ∧ a.eval z = .int kk (m : Int) := by
    intro y d m hy
    cases y with
    | none => exact .inl ⟨rfl, hy⟩
    | some z =>
      obtain ⟨kk, hz⟩ := hy
      simp only [plain1, Option.bind_eq_some_iff] at hz
      obtain ⟨al, hal, hpl⟩ := hz
      exact .inr ⟨z, kk, rfl, plainOf_rel (hr.evF z al hal) hpl⟩
  have hrun : (execOp a.eval o).run K.P w = .ok (.value (slicedAt ⟨b, o0 + off, none⟩ l h n k)) w := by
    rcases hbd lo 0 l h1 with ⟨rfl, rfl⟩ | ⟨z1, k1, rfl, e1⟩
    · rcases hbd hi n h h2 with ⟨rfl, rfl⟩ | ⟨z2, k2, rfl, e2⟩
      · have := run_sliceAt_array_all (P := K.P) w T ⟨b, o0 + off, none⟩ hu'
        rw [he, hsz, hl] at this
        simp only [execOp, ho, hg, Option.map_none, Sem.run_bind, this, Result.andThen]
        first | rfl | simp
      · have := run_sliceAt_array_h (P := K.P) w T ⟨b, o0 + off, none⟩ hu' k2 (h : Int) (by omega) (by rw [hl]; omega)
        rw [he, hsz, hl, Int.toNat_natCast] at this
        simp only [execOp, ho, hg, Option.map_none, Option.map_some, e2, Sem.run_bind, this, Result.andThen]
        first | rfl | simp
    · rcases hbd hi n h h2 with ⟨rfl, rfl⟩ | ⟨z2, k2, rfl, e2⟩
      · have := run_sliceAt_array_l (P := K.P) w T ⟨b, o0 + off, none⟩ hu' k1 (l : Int) (by omega) (by rw [hl]; omega)
        rw [he, hsz, hl, Int.toNat_natCast] at this
        simp only [execOp, ho, hg, Option.map_none, Option.map_some, e1, Sem.run_bind, this, Result.andThen]
        first | rfl | simp
      · have := run_sliceAt_array_lh (P := K.P) w T ⟨b, o0 + off, none⟩ hu' k1 k2 (l : Int) (h : Int) (by omega) (by omega) (by rw [hl]; omega)
        rw [he, hsz, hl, Int.toNat_natCast, Int.toNat_natCast] at this
        simp only [execOp, ho, hg, Option.map_none, Option.map_some, e1, e2, Sem.run_bind, this, Result.andThen]
        first | rfl | simp
  rw [hrun, Oper.uponIn_value]
  exact ⟨σ, _, hr.put hd (av := .one (.p (.sl ((rows.take h).drop l)))) (show RelP (sit K σ st w).Safe w (.sl ((rows.take h).drop l)) _ from relP_slicedAt hc off hrows hk hn hmax hlh hhn), hQ⟩
end Go.Pv
/- The logic of plain data: sets as bits. Seat-independent. -/
namespace Go.Pv
open Go Go.RowKit Go.Sh
variable {P : Program}
theorem wrap_nat {n : Nat} (h : n < 2 ^ 63) : IntKind.i64.wrap (n : Int) = n := wrap_id (by omega) (by omega)
theorem ofInt_nat {n : Nat} (h : n < 2 ^ 63) : (BitVec.ofInt 64 (n : Int)).toNat = n := by
  rw [BitVec.toNat_ofInt]; omega
theorem and_lt {a b : Nat} (h : a < 2 ^ 63) : a &&& b < 2 ^ 63 := Nat.lt_of_le_of_lt Nat.and_le_left h
theorem bin_and_nat (T : TypeId) (x y : Operand) {a b : Nat} (ha : a < 2 ^ 63) (hb : b < 2 ^ 63) : binA P .and T x y (.int .i64 (a : Int)) (.int .i64 (b : Int)) = some (.int .i64 ((a &&& b : Nat) : Int)) := by
  rw [bin_and]
  have : (BitVec.ofInt IntKind.i64.bits (a : Int) &&& BitVec.ofInt IntKind.i64.bits (b : Int)).toNat = a &&& b := by
    show (BitVec.ofInt 64 (a : Int) &&& BitVec.ofInt 64 (b : Int)).toNat = a &&& b
    rw [BitVec.toNat_and, ofInt_nat ha, ofInt_nat hb]
  rw [this, wrap_nat (and_lt ha)]
theorem bin_shr_nat (k' : IntKind) (T : TypeId) (x y : Operand) {a n : Nat} (ha : a < 2 ^ 63) (hn : n < 64) : binA P .shr T x y (.int .i64 (a : Int)) (.int k' (n : Int)) = some (.int .i64 ((a >>> n : Nat) : Int)) := by
  rw [bin_shr _ _ _ _ _ _ _ (by omega)]
  have e : min (Int.toNat (n : Int)) IntKind.i64.bits = n := by
    show min (Int.toNat (n : Int)) 64 = n
    rw [Int.toNat_natCast]; omega
  have e2 : (a : Int).fdiv (2 ^ n) = ((a >>> n : Nat) : Int) := by
    rw [Nat.shiftRight_eq_div_pow, Int.fdiv_eq_ediv_of_nonneg _ (by exact_mod_cast Nat.zero_le (2 ^ n))]
    norm_cast
  rw [e, e2]
theorem bin_shl_one (k' : IntKind) (T : TypeId) (x y : Operand) {n : Nat} (hn : n < 62) : binA P .shl T x y (.int .i64 1) (.int k' (n : Int)) = some (.int .i64 ((2 ^ n : Nat) : Int)) := by
  rw [bin_shl _ _ _ _ _ _ _ (by omega)]
  have e : min (Int.toNat (n : Int)) IntKind.i64.bits = n := by
    show min (Int.toNat (n : Int)) 64 = n
    rw [Int.toNat_natCast]; omega
  have e2 : (1 : Int) * 2 ^ n = ((2 ^ n : Nat) : Int) := by rw [Int.one_mul]; norm_cast
  rw [e, e2, wrap_nat]
  exact Nat.pow_lt_pow_right (by decide) (by omega)
/-- A set without another one. -/
def diffN (a b : Nat) : Nat := a ^^^ (a &&& b)
theorem diffN_testBit (a b i : Nat) : (diffN a b).testBit i = (a.testBit i && !b.testBit i) := by
  unfold diffN
  rw [Nat.testBit_xor, Nat.testBit_and]
  cases a.testBit i <;> cases b.testBit i <;> rfl
theorem diffN_le (a b : Nat) : diffN a b ≤ a := by
  have h : diffN a b = a &&& diffN a b := by
    apply Nat.eq_of_testBit_eq
    intro i
    rw [Nat.testBit_and, diffN_testBit]
    cases a.testBit i <;> rfl
  rw [h]; exact Nat.and_le_left
theorem bin_andNot_nat (T : TypeId) (x y : Operand) {a b : Nat} (ha : a < 2 ^ 63) (hb : b < 2 ^ 63) : binA P .andNot T x y (.int .i64 (a : Int)) (.int .i64 (b : Int)) = some (.int .i64 ((diffN a b : Nat) : Int)) := by
  rw [bin_andNot]
  have : (BitVec.ofInt IntKind.i64.bits (a : Int) &&& ~~~ BitVec.ofInt IntKind.i64.bits (b : Int)).toNat = diffN a b := by
    show (BitVec.ofInt 64 (a : Int) &&& ~~~ BitVec.ofInt 64 (b : Int)).toNat = diffN a b
    apply Nat.eq_of_testBit_eq
    intro i
    rw [diffN_testBit, ← BitVec.getLsbD, BitVec.getLsbD_and, BitVec.getLsbD_not]
    have e1 : (BitVec.ofInt 64 (a : Int)).getLsbD i = a.testBit i := by rw [BitVec.getLsbD, ofInt_nat ha]
    have e2 : (BitVec.ofInt 64 (b : Int)).getLsbD i = b.testBit i := by rw [BitVec.getLsbD, ofInt_nat hb]
    rw [e1, e2]
    by_cases hi : i < 64
    · simp [hi]
    · have : a.testBit i = false := Nat.testBit_lt_two_pow (Nat.lt_of_lt_of_le ha (Nat.pow_le_pow_right (by decide) (by omega)))
      simp [this]
  rw [this, wrap_nat (Nat.lt_of_le_of_lt (diffN_le a b) ha)]
end Go.Pv
/- The logic of plain data: sets as bits of an unsigned word. Seat-independent. -/
namespace Go.Pv
open Go Go.RowKit Go.Sh
variable {P : Program}
theorem wrapu_nat {n : Nat} (h : n < 2 ^ 64) : IntKind.u64.wrap (n : Int) = n := wrap_u64 (by omega) (by omega)
theorem ofInt_natu {n : Nat} (h : n < 2 ^ 64) : (BitVec.ofInt 64 (n : Int)).toNat = n := by
  rw [BitVec.toNat_ofInt]; omega
theorem andu_lt {a b : Nat} (h : a < 2 ^ 64) : a &&& b < 2 ^ 64 := Nat.lt_of_le_of_lt Nat.and_le_left h
theorem binu_and (T : TypeId) (x y : Operand) {a b : Nat} (ha : a < 2 ^ 64) (hb : b < 2 ^ 64) : binA P .and T x y (.int .u64 (a : Int)) (.int .u64 (b : Int)) = some (.int .u64 ((a &&& b : Nat) : Int)) := by
  rw [bin_and]
  have : (BitVec.ofInt IntKind.u64.bits (a : Int) &&& BitVec.ofInt IntKind.u64.bits (b : Int)).toNat = a &&& b := by
    show (BitVec.ofInt 64 (a : Int) &&& BitVec.ofInt 64 (b : Int)).toNat = a &&& b
    rw [BitVec.toNat_and, ofInt_natu ha, ofInt_natu hb]
  rw [this, wrapu_nat (andu_lt ha)]
theorem binu_and_one (T : TypeId) (x y : Operand) {a : Nat} (ha : a < 2 ^ 64) : binA P .and T x y (.int .u64 (a : Int)) (.int .u64 1) = some (.int .u64 ((a % 2 : Nat) : Int)) := by
  have := binu_and (P := P) T x y (a := a) (b := 1) ha (by decide)
  rw [Nat.and_one_is_mod] at this
  exact this
theorem binu_shr (k' : IntKind) (T : TypeId) (x y : Operand) {a n : Nat} (hn : n < 64) : binA P .shr T x y (.int .u64 (a : Int)) (.int k' (n : Int)) = some (.int .u64 ((a >>> n : Nat) : Int)) := by
  rw [bin_shr _ _ _ _ _ _ _ (by omega)]
  have e : min (Int.toNat (n : Int)) IntKind.u64.bits = n := by
    show min (Int.toNat (n : Int)) 64 = n
    rw [Int.toNat_natCast]; omega
  have e2 : (a : Int).fdiv (2 ^ n) = ((a >>> n : Nat) : Int) := by
    rw [Nat.shiftRight_eq_div_pow, Int.fdiv_eq_ediv_of_nonneg _ (by exact_mod_cast Nat.zero_le (2 ^ n))]
    norm_cast
  rw [e, e2]
theorem binu_shl_one (k' : IntKind) (T : TypeId) (x y : Operand) {n : Nat} (hn : n < 64) : binA P .shl T x y (.int .u64 1) (.int k' (n : Int)) = some (.int .u64 ((2 ^ n : Nat) : Int)) := by
  rw [bin_shl _ _ _ _ _ _ _ (by omega)]
  have e : min (Int.toNat (n : Int)) IntKind.u64.bits = n := by
    show min (Int.toNat (n : Int)) 64 = n
    rw [Int.toNat_natCast]; omega
  have e2 : (1 : Int) * 2 ^ n = ((2 ^ n : Nat) : Int) := by rw [Int.one_mul]; norm_cast
  rw [e, e2, wrapu_nat]
  exact Nat.pow_lt_pow_right (by decide) (by omega)
/-- A bit that is there, or is not. -/
theorem bit_t {a n : Nat} (h : a.testBit n = true) : a >>> n % 2 = 1 := by
  rw [Nat.testBit_eq_decide_div_mod_eq, decide_eq_true_eq] at h
  rw [Nat.shiftRight_eq_div_pow]; exact h
theorem bit_f {a n : Nat} (h : a.testBit n = false) : a >>> n % 2 = 0 := by
  rw [Nat.testBit_eq_decide_div_mod_eq, decide_eq_false_iff_not] at h
  rw [Nat.shiftRight_eq_div_pow]; omega
end Go.Pv
/- The logic of plain data: a memory in two cases: an entry is there, or it is not; look-ups in regions that draw. Seat-independent. -/
namespace Go.Pv
open Go Go.RowKit Go.Sh
variable {K : Kx}
theorem same_memo {s : Sit} (H : Heap0 s) {id : Nat} {P : Program} {k : TypeId} {I I' : MI} (hid : s.h id = some (.memo P k I)) {b : Nat} (hσ : s.σ id = some (.map (some b))) (hm : MapInv P k s.w b I') :
    Put s id (.memo P k I') (.map (some b)) s.w := by
  have hlt := H.lt id _ b hσ rfl
  have hT : Turn s id (.memo P k I') (.map (some b)) s.w :=
    ⟨fun k' _ hne => rfl, Nat.le_refl _, fun b' hb' => by
      simp [locBlk] at hb'; subst hb'; exact ⟨hlt.1, hlt.2, .inl ⟨_, hσ, rfl⟩⟩, fun _ _ _ _ _ _ _ h => by rw [hid] at h; cases h⟩
  have he : Ext s (s.put id (.memo P k I') (.map (some b)) s.w) :=
    hT.ext (fun _ _ h _ => by rw [hid] at h; cases h) (fun _ _ _ _ _ h _ => by rw [hid] at h; cases h) (fun P' k' I0 l h1 h2 => by
      rw [hid] at h1; cases h1
      rw [hσ] at h2; cases h2
      exact ⟨rfl, I', rfl⟩)
  exact ⟨hT.heap H he ⟨b, by simp [Sit.put, upd_same], hm⟩, he, fun _ _ _ => rfl, Nat.le_refl _, rfl, rfl, rfl⟩
theorem Rel.memoAt {σ : Nat → Option Value} {st : St} {a : Act} {w : World} (hr : Rel K σ st a w) {id : Nat} {P : Program} {k : TypeId} {I : MI} (h : AL.get st.hp id = some (.memo P k I)) : ∃ b, σ id = some (.map (some b)) ∧ MapInv P k w b I :=
  hr.heap.objs id _ h
/-- What a memory is known by is made weaker. -/
theorem weak_memo {st : St} {id : Nat} {P : Program} {k : TypeId} {I : MI} (I' : MI) (h : AL.get st.hp id = some (.memo P k I)) (hy : ∀ a b, I.yes a b → I'.yes a b) (ha : ∀ a b, I'.all a b → I.all a b) : Weak K st (st.upd (some (id, .memo P k I'))) := by
  intro σ a w hr
  obtain ⟨b, h1, h2⟩ := hr.memoAt h
  exact ⟨_, hr.upd (same_memo hr.heap (s := sit K σ st w) h h1 (h2.imp rfl hy ha))⟩
/-- An entry is there, or it is not. -/
def _root_.Go.Sh.MI.has (I : MI) (kv v : Value) : MI := ⟨fun a b => I.yes a b ∧ (a = kv → b = v), fun a b => I.all a b ∨ (a = kv ∧ b = v)⟩
def _root_.Go.Sh.MI.hasNot (I : MI) (kv : Value) : MI := ⟨fun a b => I.yes a b ∧ a ≠ kv, I.all⟩
theorem _root_.Go.Sh.MapInv.two {P : Program} {k : TypeId} {w : World} {b : Nat} {I : MI} (h : MapInv P k w b I) (kv : Value) : (∃ v, I.yes kv v ∧ MapInv P k w b (I.has kv v)) ∨ MapInv P k w b (I.hasNot kv) := by
  obtain ⟨es, ck, hb, hn, h, hA⟩ := h
  by_cases hx : ∃ e ∈ es.toList, e.key = kv
  · obtain ⟨e, he, hk⟩ := hx
    refine .inl ⟨e.val, hk ▸ (h e he).2, es, ck, hb, hn, fun e' he' => ⟨(h e' he').1, (h e' he').2, fun hk' => ?_⟩, fun a c hac => ?_⟩
    · obtain ⟨i, hi⟩ := List.mem_iff_getElem?.1 he
      obtain ⟨j, hj⟩ := List.mem_iff_getElem?.1 he'
      have hij := nodup_key (es := es) hn (i := i) (j := j) (e := e) (e' := e') (by simpa using hi) (by simpa using hj) (hk.trans hk'.symm)
      subst hij
      rw [hi] at hj; cases hj; rfl
    · rcases hac with hac | ⟨rfl, rfl⟩
      · exact hA a c hac
      · exact ⟨e, he, hk, rfl⟩
  · exact .inr ⟨es, ck, hb, hn, fun e he => ⟨(h e he).1, (h e he).2, fun hk => hx ⟨e, he, hk⟩⟩, hA⟩
theorem aw_memo {c : Code} {Q : Exit → St → Prop} {st : St} {id : Nat} {P : Program} {k : TypeId} {I : MI} (kv : Value) (h : AL.get st.hp id = some (.memo P k I)) (hy : ∀ v, I.yes kv v → AW K c Q (st.upd (some (id, .memo P k (I.has kv v))))) (hn : AW K c Q (st.upd (some (id, .memo P k (I.hasNot kv))))) : AW K c Q st := by
  intro σ a w hr
  obtain ⟨b, h1, h2⟩ := hr.memoAt h
  rcases h2.two kv with ⟨v, h3, h4⟩ | h4
  · exact hy v h3 _ a w (hr.upd (same_memo hr.heap (s := sit K σ st w) h h1 h4))
  · exact hn _ a w (hr.upd (same_memo hr.heap (s := sit K σ st w) h h1 h4))
/-- A method behind an interface value of data, in a region that draws. -/
theorem turns_invoke {l : List Oper} {st : St} {o : Oper} {recv : Operand} {name : String} {args : Array Operand} {argTypes : Array TypeId} (hd : dstOK K o.dst = true) (ho : o.op = .call { callee := .invoke recv name, args := args, argTypes := argTypes })
    {T : TypeId} {v rv : Value} (h1 : plain1 (AL.get st.fr) recv = some (.iface T v)) (fid : FuncId) (hm : ∀ w, (method (K.P.types.size + Made.depth) T v name).run K.P w = .ok (fid, rv) w)
    {r0 : RV} {rvs : List RV} {res : RR} {any : Bool} (hr0 : ∀ Z w, RelR Z w r0 rv) (h2 : args.toList.mapM (arg1 (AL.get st.fr) (AL.get st.hp) any) = some rvs)
    {fn : Func} (h5 : K.P.funcs[fid]? = some fn) (h6 : fn.body.isSome = true) (h7 : fn.name ≠ "runtime.NumGoroutine") (hfl : any = true → flatRR res = true) (hf : FunOK K.P fid (r0 :: rvs) res) : TurnsA K l st o [] (avRR res) st.hp st.nx := by
  refine ⟨fun _ _ => rfl, Nat.le_refl _, fun i h => (List.not_mem_nil h).elim, fun fr hkp => callS_invoke (any := any) (st := ⟨fr, st.hp, st.nx⟩) hd ho (v := v) (T := T) ?_ fid hm hr0 ?_ h5 h6 h7 hfl hf rfl⟩
  · show plain1 (AL.get fr) recv = _
    unfold plain1 at h1 ⊢
    rw [evalA_keep hkp (by simp [ho, Op.operands, Call.operands])]; exact h1
  · show args.toList.mapM (arg1 (AL.get fr) (AL.get st.hp) any) = _
    rw [← h2]
    refine mapM_local fun x hx => ?_
    unfold arg1
    rw [evalA_keep hkp (by simp only [ho, Op.operands, Call.operands, Array.toList_append, List.mem_append]; exact .inr hx)]
/-- A slice of an array that is data, in a region that draws. -/
theorem bndA_keep {l : List Oper} {st : St} {o : Oper} {fr : List (Nat × AV)} (hk : ∀ t, keepT l o t = true → AL.get fr t = AL.get st.fr t) {x : Option Operand} {d n : Nat} (hx : ∀ y, x = some y → y ∈ o.op.operands.toList) (h : bndA (AL.get st.fr) x d n) : bndA (AL.get fr) x d n := by
  cases x with
  | none => exact h
  | some y =>
    obtain ⟨k, hy⟩ := h
    refine ⟨k, ?_⟩
    unfold plain1 at hy ⊢
    rw [evalA_keep hk (hx y rfl)]; exact hy
theorem turns_sliceA {l' : List Oper} {st : St} {o : Oper} {T E : TypeId} {x : Operand} {lo hi : Option Operand} (hd : dstOK K o.dst = true) (ho : o.op = .slice T x lo hi none) {n k : Nat} (hT : arrElem K.P T = some (n, E)) (hE : tySize K.P E = some k)
    {row : List PV} {off : Nat} (hx : evalA (AL.get st.fr) x = some (.one (.ix row off)) ∨ (evalA (AL.get st.fr) x = some (.one (.p (.ptr row))) ∧ off = 0)) (rows : List (List PV))
    (hrows : ∀ (i : Nat) (r : List PV) (j : Nat) (c : PV), rows[i]? = some r → r[j]? = some c → row[off + i * k + j]? = some c) (hk : rowsK k rows) (hn : rows.length = n) (hmax : n ≤ 9223372036854775807)
    {l h : Nat} (h1 : bndA (AL.get st.fr) lo 0 l) (h2 : bndA (AL.get st.fr) hi n h) (hlh : l ≤ h) (hhn : h ≤ n) : TurnsA K l' st o [] (.one (.p (.sl ((rows.take h).drop l)))) st.hp st.nx := by
  have hm : ∀ y, (some x = some y ∨ lo = some y ∨ hi = some y) → y ∈ o.op.operands.toList := fun y hy => by
    rw [ho]
    rcases hy with h | h | h
    · cases h; simp [Op.operands]
    · subst h; simp [Op.operands]
    · subst h; simp [Op.operands]
  refine ⟨fun _ _ => rfl, Nat.le_refl _, fun i h => (List.not_mem_nil h).elim, fun fr hkp => callS_sliceA (st := ⟨fr, st.hp, st.nx⟩) hd ho hT hE (row := row) (off := off) ?_ rows hrows hk hn hmax (bndA_keep hkp (fun y hy => hm y (.inr (.inl hy))) h1) (bndA_keep hkp (fun y hy => hm y (.inr (.inr hy))) h2) hlh hhn rfl⟩
  show evalA (AL.get fr) x = _ ∨ (evalA (AL.get fr) x = _ ∧ _)
  rw [evalA_keep hkp (hm x (.inl rfl))]
  exact hx
end Go.Pv
/- Functions that answer a panic by a deferred call of a named function with the error's address. Printed by patch06.py. -/
namespace Go.Pv
open Go Go.RowKit Go.Sh
variable {K : Kx}
theorem fun_expAr (rg : Bool) {P : Program} {f : FuncId} {fn : Func} {r0 rest : Code} {id : Nat} {l : List Oper} {od : Oper} {args : List RV} {res : RR} {nt t eb : Nat} {fid : FuncId} {rs : List ResultVar} {argTypes : Array TypeId} {pv : Int → Value} (hD : AnswersOK P fid pv)
    (hf : P.funcs[f]? = some fn) (hb : fn.body = some (.seq r0 (.seq (.region id (l ++ [od]).toArray false) rest))) (hnt : fn.ntmps = nt) (hrs : fn.results.toList = rs) (hn : args.length ≤ nt)
    (hod : od.op = .defer { callee := .value (.func fid), args := #[.tmp t], argTypes := argTypes }) (hg : od.guard = none) (hdd : od.dst = none) (hans : ansFid P = fid)
    {fa : Func} (h5 : P.funcs[fid]? = some fa) (h6 : fa.body.isSome = true) (h7 : fa.name ≠ "runtime.NumGoroutine")
    (h : ∀ Z w0, AW ⟨P, Z, w0, fun _ => False, nt, none, noPan, none, [], false⟩ r0 (fun e st1 => e = .normal ∧ evOps ⟨P, Z, w0, fun _ => False, nt, none, noPan, none, [], false⟩ (l ++ [od]).toArray l st1 fun st2 =>
      AL.get st2.fr t = some (.one (.box eb 0)) ∧ AW ⟨P, Z, w0, fun _ => False, nt, none,
        fun ps st' => ∃ c x, ps = [{ v := pv c, recovered := false }] ∧ AL.get st'.fr t = some (.one (.box eb 0)) ∧ AL.get st'.hp eb = some (.box [.p (.v (.int .i64 x))]) ∧ resA P ⟨st'.fr, AL.set st'.hp eb (.box [.p (.v (.int .i64 c))]), st'.nx⟩ rs = some res, some t, [], rg⟩ rest
        (fun e st' => (e = .normal ∨ e = .ret) ∧ AL.get st'.fr t = some (.one (.box eb 0)) ∧ resA P st' rs = some res) st2) ⟨initFr 0 args, [], 0⟩) : FunOK P f args res := by
  subst hnt hrs
  intro Z w us hus
  refine callsIn_wide.1 (callsIn_of_wp_marks (n := 0) hf hb trivial ?_)
  have hr0 := rel_init (P := P) (Z := Z) (w := w) (pan := noPan) (rg := false) hus hn
  refine wpIn_seq (wpIn_mono (h Z w _ _ _ hr0) fun e a1 w1 hp => ?_)
  rcases hp with ⟨σ1, st1, ⟨rfl, hev⟩, hr1⟩ | ⟨ps, rfl, _, _, _, hp⟩
  rotate_left
  · exact hp.elim
  refine wpIn_seq (wpIn_region_lit (F := Fence.wide) ?_)
  refine wpListIn_append (K := ⟨P, Z, w, fun _ => False, fn.ntmps, none, noPan, none, [], false⟩) l a1 w1 ?_
  refine evOps_sound (K := ⟨P, Z, w, fun _ => False, fn.ntmps, none, noPan, none, [], false⟩) (fun e a' w' hp => ?_) l st1 σ1 a1 w1 _ hev hr1 (fun σ2 st2 a2 w2 hq hr2 => ?_)
  · obtain ⟨ps, rfl, _, _, _, hp⟩ := hp
    exact hp.elim
  obtain ⟨ht, haw⟩ := hq
  show wpListIn Fence.wide 0 P _ _ [od] a2 w2
  unfold wpListIn
  rw [if_pos (by simp [Region.wanted, hg])]
  obtain ⟨cs2, blk2, hb2, hσ2, hus2⟩ := (hr2.fr t _ ht).2
  obtain ⟨Ds, hds, hd2, hd3, hd4, hd5⟩ := hr2.df
  have hDs := hd5 rfl
  subst hDs
  have hdl : dfL ⟨P, Z, w, fun _ => False, fn.ntmps, none, noPan, none, [], false⟩ a2 = [] := rfl
  rw [hdl] at hds
  refine ⟨fun _ _ => trivial, ?_⟩
  have hrun : (od.semAt Fence.wide.round a2.eval).run P w2 = .ok (.defer { target := .fn (.func fid) #[], args := #[.pointer (some ⟨blk2, 0, none⟩)] }) w2 := by
    rw [show Fence.wide.round = none from rfl, Oper.semAt_none]
    have hev2 : a2.eval (.tmp t) = .pointer (some ⟨blk2, 0, none⟩) := hus2
    have hev3 : a2.eval (.func fid) = .func (.func fid) #[] #[] := rfl
    simp [execOp, hod, resolve, hev2, hev3, Deferred.ofValue]
  rw [hrun, Oper.uponIn_defer, hdd]
  have ha2 : a2.defers = [] := hds
  let K1 : Kx := ⟨P, Z, w, fun _ => False, fn.ntmps, none,
        fun ps st' => ∃ c x, ps = [{ v := pv c, recovered := false }] ∧ AL.get st'.fr t = some (.one (.box eb 0)) ∧ AL.get st'.hp eb = some (.box [.p (.v (.int .i64 x))]) ∧ resA P ⟨st'.fr, AL.set st'.hp eb (.box [.p (.v (.int .i64 c))]), st'.nx⟩ fn.results.toList = some res, some t, [], rg⟩
  have hr3 : Rel K1 σ2 st2 { a2 with defers := { target := .fn (.func fid) #[], args := #[.pointer (some ⟨blk2, 0, none⟩)] } :: a2.defers } w2 := by
    refine ⟨hr2.heap, hr2.fr, hr2.lt, ⟨[], ?_, List.nodup_nil, fun D hD => (by cases hD), fun D hD => (by cases hD), fun _ => rfl⟩, hr2.nt, hr2.frm⟩
    simp only [List.map_nil, List.nil_append, dfL, K1]
    rw [ha2]
    show _ = [dfOf P (a2.tmps.getD t undef)]
    rw [hus2]
    show _ = ([{ target := .fn (.func (ansFid P)) #[], args := #[.pointer (some ⟨blk2, 0, none⟩)] }] : List Deferred)
    rw [hans]
  have hend : ∀ (a' : Act) (Ds : List Nat) (σ' : Nat → Option Value) (st' : St) (w' : World), Rel K1 σ' st' a' w' → AL.get st'.fr t = some (.one (.box eb 0)) → a'.defers = Ds.map collD ++ dfL K1 a' → ∃ blk, dfL K1 a' = [{ target := .fn (.func fid) #[], args := #[.pointer (some ⟨blk, 0, none⟩)] }] ∧ σ' eb = some (.pointer (some ⟨blk, 0, none⟩)) := by
    intro a' Ds σ' st' w' hr' ht' _
    obtain ⟨cs, blk, e1, e2, e3⟩ := (hr'.fr t _ ht').2
    refine ⟨blk, ?_, e2⟩
    show [dfOf P (a'.tmps.getD t undef)] = _
    rw [e3]
    show ([{ target := .fn (.func (ansFid P)) #[], args := #[.pointer (some ⟨blk, 0, none⟩)] }] : List Deferred) = _
    rw [hans]
  have hinv : ∀ (blk : Nat) (w' : World), (invoke (.fn (.func fid) #[]) #[.pointer (some ⟨blk, 0, none⟩)]).run P w' = .ok (.enter fid #[.pointer (some ⟨blk, 0, none⟩)]) w' := by
    intro blk w'
    simp [invoke, run_callFunc h5 h6 h7]
  have hres : ∀ (σ' : Nat → Option Value) (st' : St) (a' : Act) (w' : World), Rel K1 σ' st' a' w' → resA P st' fn.results.toList = some res → ∃ v, (results fn a'.tmps).run P w' = .ok v w' ∧ ∃ u, Ending.returned v = .returned u ∧ RelRR (fun b c => Z b c ∨ w.heap.size ≤ b) w' res u ∧ Below w.heap.size w w' := by
    intro σ' st' a' w' hr' hq
    obtain ⟨u, hu, hru⟩ := results_run (K := K1) hr' hq
    refine ⟨u, hu, u, rfl, hru.mono fun b c x hz hc => ⟨?_, hc⟩, rel_below hr' fun _ h => h⟩
    rcases hz with hz | ⟨_, id, l, h1, h2⟩
    · exact hz.1
    · rcases (hr'.heap.lt id l b h1 h2).2 with h3 | h3
      · exact .inr h3
      · exact h3.elim
  let R : Ending → World → Prop := fun e w' => ∃ u, e = .returned u ∧ RelRR (fun b c => Z b c ∨ w.heap.size ≤ b) w' res u ∧ Below w.heap.size w w'
  refine wpIn_mono (haw σ2 _ w2 hr3) fun e a' w' hp => ?_
  rcases hp with ⟨σ', st', ⟨he, ht', hq⟩, hr'⟩ | ⟨ps, rfl, σ', st', hr', c, x, rfl, ht', hbx, hq⟩
  · obtain ⟨Ds, hDs, _⟩ := hr'.df
    obtain ⟨blk, hdl, hσ⟩ := hend a' Ds σ' st' w' hr' ht' hDs
    have key : LeavesInM Fence.wide 0 P fn a'.tmps R a'.defers .returning w' := by
      rw [hDs, hdl]
      rw [hdl] at hDs
      refine leaves_rests (K := K1) (by simp) Ds a' w' hr' hDs rfl fun w3 hr4 => ⟨by simp, .inr ⟨fun h => (by cases h), _, _, fid, _, rfl, hinv blk w3, fun _ _ => trivial, ?_⟩⟩
      refine CallsDIn.mono' (hD.idle ⟨blk, 0, none⟩ w3) fun e u' w4 hh => ?_
      obtain ⟨rfl, rfl, hbel⟩ := hh
      have hh := hres _ _ _ _ (hr4.at hbel) hq
      exact hh
    rcases he with rfl | rfl
    · exact key
    · exact key
  · obtain ⟨Ds, hDs, _⟩ := hr'.df
    obtain ⟨blk, hdl, hσ⟩ := hend a' Ds σ' st' w' hr' ht' hDs
    show LeavesInM Fence.wide 0 P fn a'.tmps R a'.defers (.panicking _) w'
    rw [hDs, hdl]
    rw [hdl] at hDs
    refine leaves_rests (K := K1) (by simp) Ds a' w' hr' hDs rfl fun w3 hr4 => ⟨by simp, .inr ⟨fun h => (by cases h), _, _, fid, _, rfl, hinv blk w3, fun _ _ => trivial, ?_⟩⟩
    obtain ⟨blk', vs, ty, e1, e2, e3⟩ := hr4.heap.objs eb _ hbx
    have e1' : σ' eb = some (.pointer (some ⟨blk', 0, none⟩)) := e1
    rw [hσ] at e1'; cases e1'
    have e2' : w3.heap[blk]? = some (.cells vs ty (0, 0)) := e2
    obtain ⟨v0, hv0, hrv⟩ := e3.2 0 _ rfl
    have hv0' : v0 = .int .i64 x := by
      have : RelP _ _ (.v (.int .i64 x)) v0 := hrv
      cases this; rfl
    subst hv0'
    have hcell : w3.cell? ⟨blk, 0, none⟩ = some (.int .i64 x) := by rw [cell_of_row w3 blk 0 vs ty (0, 0) e2']; exact hv0
    have hfro : w3.frozen? ⟨blk, 0, none⟩ = false := by simp [World.frozen?, e2']
    refine CallsDIn.mono' (hD.stop ⟨blk, 0, none⟩ x c w3 hcell hfro) fun e u' w4 hh => ?_
    obtain ⟨rfl, rfl, w5, hbel, rfl⟩ := hh
    have hh := hres _ _ _ _ (hr4.answer hbx hbel hσ) hq
    exact hh
theorem fun_expA {P : Program} {f : FuncId} {fn : Func} {r0 rest : Code} {id : Nat} {l : List Oper} {od : Oper} {args : List RV} {res : RR} {nt t eb : Nat} {fid : FuncId} {rs : List ResultVar} {argTypes : Array TypeId} {pv : Int → Value} (hD : AnswersOK P fid pv)
    (hf : P.funcs[f]? = some fn) (hb : fn.body = some (.seq r0 (.seq (.region id (l ++ [od]).toArray false) rest))) (hnt : fn.ntmps = nt) (hrs : fn.results.toList = rs) (hn : args.length ≤ nt)
    (hod : od.op = .defer { callee := .value (.func fid), args := #[.tmp t], argTypes := argTypes }) (hg : od.guard = none) (hdd : od.dst = none) (hans : ansFid P = fid)
    {fa : Func} (h5 : P.funcs[fid]? = some fa) (h6 : fa.body.isSome = true) (h7 : fa.name ≠ "runtime.NumGoroutine")
    (h : ∀ Z w0, AW ⟨P, Z, w0, fun _ => False, nt, none, noPan, none, [], false⟩ r0 (fun e st1 => e = .normal ∧ evOps ⟨P, Z, w0, fun _ => False, nt, none, noPan, none, [], false⟩ (l ++ [od]).toArray l st1 fun st2 =>
      AL.get st2.fr t = some (.one (.box eb 0)) ∧ AW ⟨P, Z, w0, fun _ => False, nt, none,
        fun ps st' => ∃ c x, ps = [{ v := pv c, recovered := false }] ∧ AL.get st'.fr t = some (.one (.box eb 0)) ∧ AL.get st'.hp eb = some (.box [.p (.v (.int .i64 x))]) ∧ resA P ⟨st'.fr, AL.set st'.hp eb (.box [.p (.v (.int .i64 c))]), st'.nx⟩ rs = some res, some t, [], true⟩ rest
        (fun e st' => (e = .normal ∨ e = .ret) ∧ AL.get st'.fr t = some (.one (.box eb 0)) ∧ resA P st' rs = some res) st2) ⟨initFr 0 args, [], 0⟩) : FunOK P f args res :=
  fun_expAr true hD hf hb hnt hrs hn hod hg hdd hans h5 h6 h7 h
end Go.Pv
