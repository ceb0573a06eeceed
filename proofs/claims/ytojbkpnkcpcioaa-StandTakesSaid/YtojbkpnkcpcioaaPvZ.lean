/- The logic of plain data, third part: calls walked in place, loops over a state's own entries. Seat-independent. -/
import Derived.Test.YtojbkpnkcpcioaaPvY
set_option linter.all false
namespace Go.Pv
open Go Go.RowKit Go.Sh
variable {K : Kx}

def initV : Nat → List AV → List (Nat × AV)
  | _, [] => []
  | i, r :: rs => (i, r) :: initV (i + 1) rs
theorem initV_get : ∀ (rs : List AV) (i t : Nat), AL.get (initV i rs) t = if i ≤ t ∧ t < i + rs.length then rs[t - i]? else none
  | [], i, t => by simp [initV, AL.get]
  | r :: rs, i, t => by
    simp only [initV, AL.get, initV_get rs (i + 1) t, List.length_cons]
    by_cases h : t = i
    · subst h; simp
    · rw [if_neg h]
      by_cases h2 : i + 1 ≤ t ∧ t < i + 1 + rs.length
      · rw [if_pos h2, if_pos (by omega), show t - i = (t - (i + 1)) + 1 by omega, List.getElem?_cons_succ]
      · rw [if_neg h2, if_neg (by omega)]

def capV : CC → AV
  | .box b => .one (.box b 0)
  | .p x => .one (.p x)
theorem capV_rel {s : Sit} {c : CC} {u : Value} (h : RelCC s c u) : RelV s (capV c) u := by
  cases c with
  | box b => exact h
  | p x => exact h

def RelVs (s : Sit) (avs : List AV) (us : Array Value) : Prop := us.size = avs.length ∧ ∀ (j : Nat) (x : AV), avs[j]? = some x → ∃ u, us[j]? = some u ∧ RelV s x u

/-- A call of a function, in a state: what it leaves. -/
def CallF (K : Kx) (fid : FuncId) (avs : List AV) (st : St) (Q : St → AV → Prop) : Prop :=
  ∀ σ a w us, Rel K σ st a w → RelVs (sit K σ st w) avs us → Calls K.P fid us w fun e w' => ∃ u, e = .returned u ∧ ∃ σ' st' av, Rel K σ' st' a w' ∧ RelV (sit K σ' st' w') av u ∧ Q st' av

theorem CallF.mono {fid : FuncId} {avs : List AV} {st : St} {Q Q' : St → AV → Prop} (h : CallF K fid avs st Q) (hq : ∀ st' av, Q st' av → Q' st' av) : CallF K fid avs st Q' :=
  fun σ a w us hr hv => (h σ a w us hr hv).mono fun _ _ ⟨u, he, σ', st', av, h1, h2, h3⟩ => ⟨u, he, σ', st', av, h1, h2, hq _ _ h3⟩

/-- Ahead of a call less may be said. -/
theorem CallF.weak {fid : FuncId} {avs : List AV} {st st' : St} {Q : St → AV → Prop} (t : List Nat) (hk : ∀ σ a w us, Rel K σ st a w → RelVs (sit K σ st w) avs us → ∃ σ', Rel K σ' st' a w ∧ RelVs (sit K σ' st' w) avs us) (h : CallF K fid avs st' Q) : CallF K fid avs st Q :=
  fun σ a w us hr hv => let ⟨σ', h1, h2⟩ := hk σ a w us hr hv; h σ' a w us h1 h2

theorem callS_of {st : St} {o : Oper} {Q : St → Prop} {f : Operand} {args : Array Operand} {argTypes : Array TypeId} (hd : dstOK K o.dst = true) (ho : o.op = .call { callee := .value f, args := args, argTypes := argTypes })
    (fid : FuncId) {caps : List CC} {avs : List AV} (h1 : (evalA (AL.get st.fr) f).bind fnA = some (fid, caps)) (h2 : mapO (evalA (AL.get st.fr)) args.toList = some avs)
    {fn : Func} (h5 : K.P.funcs[fid]? = some fn) (h6 : fn.body.isSome = true) (h7 : fn.name ≠ "runtime.NumGoroutine") (h : CallF K fid (avs ++ caps.map capV) st fun st' av => Q (st'.put o.dst av)) : CallS K st o Q := by
  intro σ a w hr
  obtain ⟨us, hus, hs0, hcap⟩ := fn_rel hr.evF h1
  rw [← mapM_eq] at h2
  obtain ⟨hl, ha⟩ := mapM_get h2
  have hrun : (execOp a.eval o).run K.P w = .ok (.enter fid (args.map a.eval ++ us)) w := by
    simp [execOp, ho, resolve, invoke, hus, Deferred.ofValue, run_callFunc h5 h6 h7]
  have hl' : args.size = avs.length := by simpa using hl.symm
  refine ⟨fid, _, hrun, ?_⟩
  refine (h σ a w _ hr ⟨by simp [hs0, hl'], fun j x hj => ?_⟩).mono fun e w' ⟨u, he, σ', st', av, h1, h2, h3⟩ => ⟨u, he, σ', _, h1.put hd h2, h3⟩
  by_cases hjl : j < avs.length
  · rw [List.getElem?_append_left hjl] at hj
    obtain ⟨y, hy, hf⟩ := ha j x hj
    have hy' : args[j]? = some y := by simpa using hy
    refine ⟨a.eval y, ?_, hr.evF y x hf⟩
    rw [Array.getElem?_append_left (by simp [hl']; exact hjl)]
    simp [hy']
  · rw [List.getElem?_append_right (by omega), List.getElem?_map] at hj
    cases hq : caps[j - avs.length]? with
    | none => rw [hq] at hj; cases hj
    | some c =>
      rw [hq] at hj; cases hj
      obtain ⟨v, hv, hrv⟩ := hcap _ c hq
      refine ⟨v, ?_, capV_rel hrv⟩
      rw [Array.getElem?_append_right (by simp [hl']; omega)]
      simpa [hl'] using hv

theorem callS_ok {ops : Array Oper} {o : Oper} {r : List Oper} {st : St} {Q : St → Prop} {f : Operand} {args : Array Operand} {argTypes : Array TypeId} (hd : dstOK K o.dst = true) (ho : o.op = .call { callee := .value f, args := args, argTypes := argTypes })
    (fid : FuncId) {caps : List CC} {avs : List AV} (h1 : (evalA (AL.get st.fr) f).bind fnA = some (fid, caps)) (h2 : mapO (evalA (AL.get st.fr)) args.toList = some avs)
    {fn : Func} (h5 : K.P.funcs[fid]? = some fn) (h6 : fn.body.isSome = true) (h7 : fn.name ≠ "runtime.NumGoroutine") (h : CallF K fid (avs ++ caps.map capV) st fun st' av => evOps K ops r (st'.put o.dst av) Q) : CallO K ops o r st Q :=
  ⟨hd, .inr ⟨⟨f, args, argTypes, ho⟩, callS_of hd ho fid h1 h2 h5 h6 h7 h⟩⟩

def resV1 (P : Program) (st : St) : ResultVar → Option AV
  | .tmp t => AL.get st.fr t
  | .cell a ty => (AL.get st.fr a).bind fun av => loadA P (AL.get st.hp) ty av
def resV (P : Program) (st : St) : List ResultVar → Option AV
  | [r] => resV1 P st r
  | rs => (mapO (fun r => (resV1 P st r).bind (rvA false (AL.get st.hp))) rs).map .tup

theorem resV1_run {σ : Nat → Option Value} {st : St} {a : Act} {w : World} (h : Rel K σ st a w) {rv : ResultVar} {av : AV} (hr : resV1 K.P st rv = some av) :
    ∃ u, (resF a.tmps rv).run K.P w = .ok u w ∧ RelV (sit K σ st w) av u := by
  cases rv with
  | tmp t => exact ⟨_, rfl, (h.fr t av hr).2⟩
  | cell ad ty =>
    simp only [resV1, Option.bind_eq_some_iff] at hr
    obtain ⟨av0, hav, hv⟩ := hr
    obtain ⟨x, hx, hrx⟩ := loadA_run (P := K.P) h.heap (h.fr ad av0 hav).2 hv
    have hrow : ∃ row, rowAtA (sit K σ st w).h av0 = some row := by
      unfold loadA at hv
      simp only [Option.bind_eq_some_iff] at hv
      obtain ⟨row, h1, _⟩ := hv
      exact ⟨row, h1⟩
    obtain ⟨row, hrow⟩ := hrow
    obtain ⟨b, o, hp, _⟩ := rowAtA_rel h.heap (h.fr ad av0 hav).2 hrow
    refine ⟨x, ?_, hrx⟩
    simp only [resF]
    rw [hp] at hx ⊢
    simp only [Instr.loadAt, Instr.sureAddr, Sem.run_bind, Sem.run_pure, Result.andThen_ok] at hx
    simp only [asAddr, Sem.run_bind, Sem.run_pure, Result.andThen_ok]
    exact hx

theorem resV_run {σ : Nat → Option Value} {st : St} {a : Act} {w : World} (h : Rel K σ st a w) {fn : Func} {av : AV} (hr : resV K.P st fn.results.toList = some av) : ∃ u, (results fn a.tmps).run K.P w = .ok u w ∧ RelV (sit K σ st w) av u := by
  have hm : ∀ {w'}, (fn.results.mapM (resF a.tmps)).run K.P w' = (List.toArray <$> fn.results.toList.mapM (resF a.tmps)).run K.P w' := by
    intro w'; rw [Array.mapM_eq_mapM_toList]
  have key : ∀ (l : List ResultVar) (rs : List RV), mapO (fun r => (resV1 K.P st r).bind (rvA false (AL.get st.hp))) l = some rs → ∃ us : List Value, (l.mapM (resF a.tmps)).run K.P w = .ok us w ∧ RelRs (sit K σ st w).Safe w rs us.toArray := by
    intro l
    induction l with
    | nil => intro rs hrs; cases hrs; exact ⟨[], rfl, rfl, by simp⟩
    | cons rv l ih =>
      intro rs hrs
      rw [← mapM_eq] at hrs
      simp only [List.mapM_cons, Option.pure_def, Option.bind_eq_bind, Option.bind_eq_some_iff, Option.some.injEq] at hrs
      obtain ⟨r1, ⟨av1, h1, hrv⟩, rs', h2, rfl⟩ := hrs
      obtain ⟨u, hu, hru⟩ := resV1_run h h1
      obtain ⟨us, hus, hs, hrel⟩ := ih rs' (by rw [← mapM_eq]; exact h2)
      have hsafe : ∀ b c, (sit K σ st w).Zc false b c → (sit K σ st w).Safe b c := by
        intro b c hz
        rcases hz with hz | ⟨hz, _⟩
        · exact hz
        · cases hz
      have hru2 : RelR (sit K σ st w).Safe w r1 u := (rvA_rel h.heap hru hrv).mono fun b c x hz hc => ⟨hsafe b c hz, hc⟩
      refine ⟨u :: us, ?_, by simpa using hs, fun j r hj => ?_⟩
      · simp only [List.mapM_cons, Sem.run_bind]
        rw [hu]
        simp only [Result.andThen_ok, Sem.run_bind]
        rw [hus]
        rfl
      · cases j with
        | zero => simp at hj; subst hj; exact ⟨u, by simp, hru2⟩
        | succ j =>
          obtain ⟨x, hx, hrx⟩ := hrel j r (by simpa using hj)
          exact ⟨x, by simpa using hx, hrx⟩
  rcases hl : fn.results.toList with _ | ⟨r1, _ | ⟨r2, rs⟩⟩
  · rw [hl] at hr
    cases hr
    rw [results_eq, Sem.run_bind, hm, hl, Sem.run_map]
    exact ⟨.tuple #[], rfl, #[], rfl, rfl, by simp⟩
  · rw [hl] at hr
    obtain ⟨u, hu, hru⟩ := resV1_run h hr
    refine ⟨u, ?_, hru⟩
    rw [results_eq, Sem.run_bind, hm, hl, Sem.run_map]
    simp only [List.mapM_cons, List.mapM_nil, Sem.run_bind, hu, Result.andThen_ok]
    rfl
  · rw [hl] at hr
    simp only [resV, Option.map_eq_some_iff] at hr
    obtain ⟨rs', hrs, rfl⟩ := hr
    obtain ⟨us, hus, hrel⟩ := key _ rs' hrs
    have hlen : us.length = rs'.length := by simpa using hrel.1
    have hlen2 : rs'.length = rs.length + 2 := by
      rw [← mapM_eq] at hrs
      have := (mapM_get hrs).1
      simpa using this
    refine ⟨.tuple us.toArray, ?_, us.toArray, rfl, hrel⟩
    rw [results_eq, Sem.run_bind, hm, hl, Sem.run_map, hus]
    simp only [Result.andThen]
    have hne : ¬ (us.toArray.size = 1) := by intro h1; rw [List.size_toArray, hlen] at h1; omega
    rw [dif_neg hne]
    rfl

/-- A call, walked in place: the caller's frame is kept. -/
theorem callF_in {fid : FuncId} {avs : List AV} {st : St} {Q : St → AV → Prop} {fn : Func} {c : Code} {nt : Nat} {rs : List ResultVar} (hf : K.P.funcs[fid]? = some fn) (hb : fn.body = some c) (hnt : fn.ntmps = nt) (hrs : fn.results.toList = rs) (hn : avs.length ≤ nt)
    (h : ∀ tm, AW { K with nt := nt } c (fun e st' => (e = .normal ∨ e = .ret) ∧ ∃ av, resV K.P st' rs = some av ∧ AL.get st'.hp st.nx = some (.kept st.fr tm) ∧ Q ⟨st.fr, st'.hp, st'.nx⟩ av) ⟨initV 0 avs, (st.nx, .kept st.fr tm) :: st.hp, st.nx + 1⟩) : CallF K fid avs st Q := by
  subst hnt hrs
  intro σ a w us hr hus
  refine calls_of_wp hf hb ?_
  have hσ : σ st.nx = none := hr.fresh (Nat.le_refl _)
  let st0 : St := ⟨initV 0 avs, (st.nx, .kept st.fr fun t => a.tmps.getD t undef) :: st.hp, st.nx + 1⟩
  have hget : ∀ id, id ≠ st.nx → AL.get st0.hp id = AL.get st.hp id := fun id hid => by simp [st0, AL.get, hid]
  have he : Ext (sit K σ st w) (sit K σ st0 w) := by
    refine ⟨fun _ _ _ _ h => h, fun b c _ hs => ⟨hs.1, fun id l hl hb => ?_⟩, fun id cs l h1 h2 => ?_, fun id E k rows sh l h1 h2 => ?_⟩
    · have hid : id ≠ st.nx := by rintro rfl; simp only [sit] at hl; rw [hσ] at hl; cases hl
      obtain ⟨E, k, rows, h1, h2⟩ := hs.2 id l hl hb
      exact ⟨E, k, rows, by simp only [sit]; rw [hget id hid]; exact h1, h2⟩
    · have hid : id ≠ st.nx := by rintro rfl; simp only [sit] at h2; rw [hσ] at h2; cases h2
      exact ⟨h2, cs, by simp only [sit]; rw [hget id hid]; exact h1⟩
    · have hid : id ≠ st.nx := by rintro rfl; simp only [sit] at h2; rw [hσ] at h2; cases h2
      exact ⟨rows, sh, l, by simp only [sit]; rw [hget id hid]; exact h1, h2, .inl ⟨rfl, rfl, fun h => h⟩⟩
  have hrel : Rel { K with nt := fn.ntmps } σ st0 { tmps := us ++ Array.replicate (fn.ntmps - us.size) undef, defers := [] } w := by
    have hsz : us.size = avs.length := hus.1
    refine ⟨⟨fun id o ho => ?_, fun id l hl => ?_, hr.heap.inj, hr.heap.lt⟩, fun t av ht => ?_, fun id o ho => ?_, rfl, by simp; omega, hr.frm⟩
    · have ho' : AL.get st0.hp id = some o := ho
      by_cases hid : id = st.nx
      · subst hid
        simp only [st0, AL.get_eq, Option.some.injEq] at ho'
        subst ho'
        exact fun t av ht => he.relV (hr.fr t av ht).2
      · rw [hget id hid] at ho'
        exact (hr.heap.objs id o ho').ext he rfl rfl fun _ _ _ _ => rfl
    · obtain ⟨o, ho⟩ := hr.heap.dom id l hl
      by_cases hid : id = st.nx
      · exact ⟨_, by subst hid; simp only [sit, st0]; exact AL.get_eq _ _ _⟩
      · exact ⟨o, by simp only [sit]; rw [hget id hid]; exact ho⟩
    · have ht' : AL.get (initV 0 avs) t = some av := ht
      rw [initV_get] at ht'
      split at ht'
      · obtain ⟨u, hu, hv⟩ := hus.2 t av (by simpa using ht')
        have hlt : t < us.size := (Array.getElem?_eq_some_iff.1 hu).1
        refine ⟨by simp; omega, ?_⟩
        have : (us ++ Array.replicate (fn.ntmps - us.size) undef).getD t undef = u := by
          rw [Array.getD_eq_getD_getElem?, Array.getElem?_append_left hlt, hu]; rfl
        rw [this]
        exact he.relV hv
      · cases ht'
    · by_cases hid : id = st.nx
      · subst hid; exact Nat.lt_succ_self _
      · rw [hget id hid] at ho
        exact Nat.lt_succ_of_lt (hr.lt id o ho)
  refine Code.wp_mono (fun e a' w' hpost => ?_) (h (fun t => a.tmps.getD t undef) _ _ _ hrel)
  obtain ⟨σ', st', ⟨hex, av, hres, hkept, hq⟩, hr'⟩ := hpost
  obtain ⟨u, hu, hru⟩ := resV_run (K := { K with nt := fn.ntmps }) hr' hres
  have hk := hr'.heap.objs st.nx _ hkept
  have hback : Rel K σ' ⟨st.fr, st'.hp, st'.nx⟩ a w' :=
    ⟨hr'.heap, fun t av ht => ⟨(hr.fr t av ht).1, hk t av ht⟩, hr'.lt, hr.df, hr.nt, hr'.frm⟩
  have hpost : a'.defers = [] ∧ ∃ v, (results fn a'.tmps).run K.P w' = .ok v w' ∧ ∃ u, Ending.returned v = .returned u ∧ ∃ σ' st' av, Rel K σ' st' a w' ∧ RelV (sit K σ' st' w') av u ∧ Q st' av :=
    ⟨hr'.df, u, hu, u, rfl, σ', _, av, hback, hru, hq⟩
  rcases hex with rfl | rfl
  · exact hpost
  · exact hpost

theorem eqIn_bool {P : Program} {T : TypeId} {a b : Bool} {d : Nat} (h : P.underlying T = some .bool) : peek P (Op.equalIn (d + 1) T (.bool a) (.bool b)) = some (a == b) := by
  unfold Op.equalIn
  rw [peek_bind, peek_und h, Option.bind_some]
  rfl
theorem bin_eql_bool {P : Program} {T : TypeId} (h : P.underlying T = some .bool) (x y : Operand) (a b : Bool) : binA P .eql T x y (.bool a) (.bool b) = some (.bool (a == b)) := by
  have he : peek P (Op.equal T (.bool a) (.bool b)) = some (a == b) := by
    exact eqIn_bool (d := 9999) h
  unfold binA eqGuard binOp
  simp [peek_bind, peek_map, he, peek_pure]
theorem bin_neq_bool {P : Program} {T : TypeId} (h : P.underlying T = some .bool) (x y : Operand) (a b : Bool) : binA P .neq T x y (.bool a) (.bool b) = some (.bool (a != b)) := by
  have he : peek P (Op.equal T (.bool a) (.bool b)) = some (a == b) := by
    exact eqIn_bool (d := 9999) h
  unfold binA eqGuard binOp
  simp [peek_bind, peek_map, he, peek_pure]
  cases a <;> cases b <;> rfl
theorem bne_tf : (true != false) = true := rfl
theorem bne_ft : (false != true) = true := rfl
theorem beq_tf : (true == false) = false := rfl
theorem beq_ft : (false == true) = false := rfl

theorem beq_t_d {a b : Int} (h : a = b) : (a == b) = true := by simp [h]
theorem beq_f_d {a b : Int} (h : a ≠ b) : (a == b) = false := by simp [h]
theorem bne_t_d {a b : Int} (h : a ≠ b) : (a != b) = true := by simp [h]
theorem bne_f_d {a b : Int} (h : a = b) : (a != b) = false := by simp [h]

/-! ### Loops over a state's own entries -/

/-- The objects that are to be reached. -/
def reachL (hp : Nat → Option Obj') : Nat → List Nat → List Nat → List Nat
  | 0, _, seen => seen
  | _ + 1, [], seen => seen
  | n + 1, i :: todo, seen => if seen.contains i = true then reachL hp n todo seen else
      match hp i with
      | some o => reachL hp n (refsO o ++ todo) (seen ++ [i])
      | none => reachL hp n todo seen
def slotRefs (fr : List (Nat × AV)) : List Nat → List Nat
  | [] => []
  | t :: r => (match AL.get fr t with | some av => refsV av | none => []) ++ slotRefs fr r
/-- The slots that are there. -/
def there (fr : List (Nat × AV)) : List Nat → List Nat
  | [] => []
  | t :: r => (match AL.get fr t with | some _ => [t] | none => []) ++ there fr r
def keep (st : St) (slots : List Nat) : Option St := restrict st (there st.fr slots) (reachL (AL.get st.hp) 200 (slotRefs st.fr slots) []) st.nx
theorem weak_keep {st st' : St} (slots : List Nat) (h : keep st slots = some st') : Weak K st st' := weak_restrict _ _ _ h
def keys {α : Type} : List (Nat × α) → List Nat
  | [] => []
  | (k, _) :: r => k :: keys r
theorem weak_round {st T : St} (h : restrict st (keys T.fr) (keys T.hp) (if T.nx < st.nx then st.nx else T.nx) = some ⟨T.fr, T.hp, if T.nx < st.nx then st.nx else T.nx⟩) (hT : ((keys T.hp).all fun i => decide (i < T.nx)) = true) : Weak K st T := by
  intro σ a w hr
  obtain ⟨σ', hr'⟩ := weak_restrict _ _ _ h σ a w hr
  refine ⟨σ', hr'.heap, hr'.fr, fun id o ho => ?_, hr'.df, hr'.nt, hr'.frm⟩
  have : ∀ (l : List (Nat × Obj')), AL.get l id = some o → id ∈ keys l := by
    intro l
    induction l with
    | nil => intro h; simp [AL.get] at h
    | cons p l ih =>
      obtain ⟨k, x⟩ := p
      intro h
      simp only [AL.get] at h
      split at h
      · rename_i hk; subst hk; exact List.mem_cons_self
      · exact List.mem_cons_of_mem _ (ih h)
  have := List.all_eq_true.1 hT id (this _ ho)
  simpa using this
def ovL {α : Type} (f : List (Nat × α)) : List (Nat × α) → List (Nat × α)
  | [] => []
  | (k, x) :: r => (k, (AL.get f k).getD x) :: ovL f r
/-- The state with some entries turned. -/
def ov (st : St) (f : List (Nat × AV)) (h : List (Nat × Obj')) : St := ⟨ovL f st.fr, ovL h st.hp, st.nx⟩
theorem aw_loop_ov {ι : Type} {body : Code} {Q : Exit → St → Prop} {st : St} (fo : ι → List (Nat × AV)) (ho : ι → List (Nat × Obj')) (μ : ι → Nat) (i : ι) (h0 : ov st (fo i) (ho i) = st)
    (h : ∀ j, AW K body (thenA (fun st' => ∃ j', μ j' < μ j ∧ Weak K st' (ov st (fo j') (ho j'))) Q) (ov st (fo j) (ho j))) : AW K (.loop body) Q st := by
  have := aw_loop (fun j => ov st (fo j) (ho j)) μ h i
  rw [h0] at this
  exact this
end Go.Pv
