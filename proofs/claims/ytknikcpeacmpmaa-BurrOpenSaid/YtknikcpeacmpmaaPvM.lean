/- Maps whose keys are numbers. Printed by genPvM.py. -/
import Derived.Test.YtknikcpeacmpmaaKd
set_option linter.all false
namespace Go.Sh
open Go Go.RowKit Go.WideMaps Go.MapKept
/-- What a map needs of its keys. -/
structure KLaw (P : Program) (k : TypeId) : Prop where
  check : ∀ (w : World) (em : Bool) {v : Value} {l : Lit}, keyOf P k v = some l → (Instr.checkKey em 10000 k v).run P w = .ok () w
  find : ∀ (w : World) {x : Value} {lx : Lit}, keyOf P k x = some lx → ∀ es : List MapEntry, (∀ e ∈ es, ∃ l, keyOf P k e.key = some l) →
    ((Instr.findKey k x es).run P w = .ok none w ∧ ∀ e ∈ es, e.key ≠ x) ∨ ∃ j e, (Instr.findKey k x es).run P w = .ok (some (j, e.val)) w ∧ es[j]? = some e ∧ e.key = x
  stays : ∀ (w : World) {v : Value} {l : Lit}, keyOf P k v = some l → (Instr.keyThatStays v v).run P w = .ok v w
theorem KLaw.of {P : Program} {k : TypeId} (K : KeyLaw P k) : KLaw P k := ⟨K.check, K.find, K.stays⟩
theorem keyOf_int {P : Program} {k : TypeId} {q : IntKind} (hk : P.underlying k = some (.int q)) (v : Value) : keyOf P k v = mapKey P k v := by
  unfold keyOf
  simp only [hk]
theorem int_of_keyOf {P : Program} {k : TypeId} {q : IntKind} (hk : P.underlying k = some (.int q)) {v : Value} {l : Lit} (h : keyOf P k v = some l) : ∃ n, v = .int q n := by
  rw [keyOf_int hk] at h
  unfold mapKey at h
  cases v <;> simp [hk] at h
  rename_i q' n
  obtain ⟨⟨rfl, _⟩, _⟩ := h
  exact ⟨n, rfl⟩
theorem keyOf_int_mk {P : Program} {k : TypeId} {q : IntKind} (hk : P.underlying k = some (.int q)) {n : Int} (hw : (Lit.int q n).wf = true) : keyOf P k (.int q n) = some (.int q n) := by
  rw [keyOf_int hk]
  unfold mapKey
  simp [hk, hw]
theorem int_klaw {P : Program} {k : TypeId} {q : IntKind} (hk : P.underlying k = some (.int q)) : KLaw P k where
  check w em _ _ h := by
    obtain ⟨n, rfl⟩ := int_of_keyOf hk h
    exact run_checkKey hk (d := .int q) (k := .int q n) rfl em 9999
  find w _ _ hx es hes := by
    obtain ⟨n, rfl⟩ := int_of_keyOf hk hx
    have hks : ∀ x ∈ es, IsKey (.int q) x.key := fun x hxm => by
      obtain ⟨l, hl⟩ := hes x hxm
      obtain ⟨s', e⟩ := int_of_keyOf hk hl
      rw [e]
      exact rfl
    rcases findNow_spec (d := .int q) (k := .int q n) rfl es 0 hks with ⟨h1, h2⟩ | ⟨j, e0, h1, h2, h3⟩
    · exact Or.inl ⟨run_findKey hk h1, h2⟩
    · exact Or.inr ⟨j, e0, by simpa using run_findKey hk h1, h2, h3⟩
  stays w _ _ h := by
    obtain ⟨n, rfl⟩ := int_of_keyOf hk h
    exact run_keyThatStays (d := .int q) (k := .int q n) rfl
theorem MapInv.lookupK {P : Program} {t k e : TypeId} {w : World} {m : Nat} {I : MI} (K : KLaw P k) (ht : P.underlying t = some (.map k e)) {z : Value} (hz : ∀ w, (zeroValue e).run P w = .ok z w)
    (h : MapInv P k w m I) {key : Value} {l : Lit} (hk : keyOf P k key = some l) :
    ∃ v ok, (∀ w', w'.heap[m]? = w.heap[m]? → (Instr.lookup t (.map (some m)) key true).run P w' = .ok (.tuple #[v, .bool ok]) w') ∧ ((ok = true ∧ I.yes key v) ∨ (ok = false ∧ v = z ∧ ∀ b, ¬ I.all key b)) := by
  obtain ⟨es, ck, hb, hn, h, hA⟩ := h
  rcases K.find w hk es.toList (fun e he => (h e he).1) with ⟨_, hno⟩ | ⟨j, e0, _, hj, hkey⟩
  · refine ⟨z, false, fun w' hw => ?_, .inr ⟨rfl, rfl, fun b hb => let ⟨e, he, hek, _⟩ := hA _ _ hb; hno e he hek⟩⟩
    have hb' := hw.trans hb
    have hc := K.check w' es.isEmpty hk
    rcases K.find w' hk es.toList (fun e he => (h e he).1) with ⟨hf, _⟩ | ⟨j, e0, hf, hj, hkey⟩
    · simp [Instr.lookup, run_underlying ht, run_getObj_map w' m es ck hb', hc, hf, hz]
    · exact absurd hkey (hno e0 (List.mem_of_getElem? hj))
  · have hj0 : es[j]? = some e0 := by simpa using hj
    refine ⟨e0.val, true, fun w' hw => ?_, .inl ⟨rfl, by rw [← hkey]; exact (h e0 (List.mem_of_getElem? hj)).2⟩⟩
    have hb' := hw.trans hb
    have hc := K.check w' es.isEmpty hk
    rcases K.find w' hk es.toList (fun e he => (h e he).1) with ⟨_, hno⟩ | ⟨j', e1, hf, hj', hkey'⟩
    · exact absurd hkey (hno e0 (List.mem_of_getElem? hj))
    · have hj1 : es[j']? = some e1 := by simpa using hj'
      have := nodup_key hn hj0 hj1 (hkey.trans hkey'.symm)
      subst this
      rw [hj0] at hj1
      cases hj1
      simp [Instr.lookup, run_underlying ht, run_getObj_map w' m es ck hb', hc, hf]

theorem MapInv.updateK {P : Program} {t k e : TypeId} {w : World} {m : Nat} {I I' : MI} (K : KLaw P k) (ht : P.underlying t = some (.map k e))
    (h : MapInv P k w m I) {key v : Value} {l : Lit} (hk : keyOf P k key = some l) (hv : I'.yes key v) (hy : ∀ a b, a ≠ key → I.yes a b → I'.yes a b) (ha : ∀ a b, I'.all a b → (a = key ∧ b = v) ∨ (a ≠ key ∧ I.all a b)) :
    ∃ o, (Instr.mapUpdate t (.map (some m)) key v).run P w = .ok () (w.putObj m o) ∧ MapInv P k (w.putObj m o) m I' := by
  obtain ⟨es, ck, hb, hn, h, hA⟩ := h
  have hlt : m < w.heap.size := (Array.getElem?_eq_some_iff.1 hb).1
  have hc := K.check w false hk
  rcases K.find w hk es.toList (fun e he => (h e he).1) with ⟨hf, hno⟩ | ⟨j, e0, hf, hj, hkey⟩
  · refine ⟨.map (es.push { key, val := v, born := ck }) (ck + 1), ?_, _, _, World.putObj_heap_same hlt, ?_, ?_, ?_⟩
    · simp [Instr.mapUpdate, run_underlying ht, run_getObj_map w m es ck hb, hc, hf, setObj, Sem.run, hb, World.putObj]
    · simp only [Array.toList_push, List.map_append, List.map_cons, List.map_nil]
      refine List.nodup_append.2 ⟨hn, by simp, ?_⟩
      intro a hm1 b hb'
      simp at hb'
      subst hb'
      obtain ⟨e, he, rfl⟩ := List.mem_map.1 hm1
      exact hno e he
    · intro e he
      simp at he
      rcases he with he | rfl
      · exact ⟨(h e (by simpa using he)).1, hy _ _ (hno e (by simpa using he)) (h e (by simpa using he)).2⟩
      · exact ⟨⟨l, hk⟩, hv⟩
    · intro a b hab
      rcases ha a b hab with ⟨rfl, rfl⟩ | ⟨_, h0⟩
      · exact ⟨{ key := a, val := b, born := ck }, by simp, rfl, rfl⟩
      · obtain ⟨e, he, h1, h2⟩ := hA a b h0
        exact ⟨e, by simp; exact .inl (by simpa using he), h1, h2⟩
  · have hst := K.stays w hk
    have hj' : es[j]? = some e0 := by simpa using hj
    refine ⟨.map (es.modify j fun e => { e with key, val := v }) ck, ?_, _, _, World.putObj_heap_same hlt, ?_, ?_, ?_⟩
    · simp [Instr.mapUpdate, run_underlying ht, run_getObj_map w m es ck hb, hc, hf, hj', hkey, hst, setObj, Sem.run, hb, World.putObj]
    · have hsame : (es.modify j fun e => { e with key, val := v }).toList.map (·.key) = es.toList.map (·.key) := by
        apply List.ext_getElem?
        intro i
        simp only [List.getElem?_map, Array.getElem?_toList, Array.getElem?_modify]
        split
        · rename_i e; subst e; simp [hj', hkey]
        · rfl
      rw [hsame]; exact hn
    · intro e he
      rw [Array.mem_toList_iff] at he
      obtain ⟨i, hi, hie⟩ := Array.mem_iff_getElem.1 he
      rw [Array.getElem_modify] at hie
      split at hie
      · subst hie; exact ⟨⟨l, hk⟩, hv⟩
      · rename_i hne
        subst hie
        have hmem : es[i]'(by simpa using hi) ∈ es.toList := by rw [Array.mem_toList_iff]; exact Array.getElem_mem _
        refine ⟨(h _ hmem).1, hy _ _ (fun hk' => hne ?_) (h _ hmem).2⟩
        exact nodup_key hn hj' (Array.getElem?_eq_getElem (by simpa using hi)) (hkey.trans hk'.symm)
    · intro a b hab
      have hgm : ∀ i : Nat, (es.modify j fun e => { e with key, val := v }).toList[i]? = if i = j then es[i]?.map fun e => { e with key, val := v } else es[i]? := by
        intro i
        rw [Array.getElem?_toList, Array.getElem?_modify]
        by_cases hij : j = i
        · rw [if_pos hij, if_pos hij.symm]
        · rw [if_neg hij, if_neg (fun e => hij e.symm)]
      rcases ha a b hab with ⟨rfl, rfl⟩ | ⟨hne, h0⟩
      · exact ⟨{ e0 with key := a, val := b }, List.mem_of_getElem? (i := j) (by rw [hgm, if_pos rfl, hj']; rfl), rfl, rfl⟩
      · obtain ⟨e, he, h1, h2⟩ := hA a b h0
        obtain ⟨i, hi, hie⟩ := List.getElem_of_mem he
        have hi2 : es.toList[i]? = some e := by rw [List.getElem?_eq_getElem hi, hie]
        refine ⟨e, List.mem_of_getElem? (i := i) ?_, h1, h2⟩
        rw [hgm, if_neg, ← Array.getElem?_toList]
        · exact hi2
        · rintro rfl
          rw [Array.getElem?_toList, hj'] at hi2
          cases hi2
          exact hne (h1.symm.trans hkey)

end Go.Sh
namespace Go.Pv
open Go Go.RowKit Go.Sh
variable {K : Kx}
theorem callS_updateK {st : St} {o : Oper} {Q : St → Prop} {T k e : TypeId} {m kx vx : Operand} (hd : dstOK K o.dst = true) (ho : o.op = .mapUpdate T m kx vx) (KL : KLaw K.P k) (ht : K.P.underlying T = some (.map k e)) {id : Nat} {I : MI} (I' : MI)
    (h1 : evalA (AL.get st.fr) m = some (.one (.memo id))) (h2 : AL.get st.hp id = some (.memo K.P k I)) {kv vv : Value} {l : Lit} (h3 : plain1 (AL.get st.fr) kx = some kv) (h4 : plain1 (AL.get st.fr) vx = some vv) (hk : keyOf K.P k kv = some l) (hI : I'.yes kv vv) (hy : ∀ a b, a ≠ kv → I.yes a b → I'.yes a b) (ha : ∀ a b, I'.all a b → (a = kv ∧ b = vv) ∨ (a ≠ kv ∧ I.all a b))
    (h : Q ((st.upd (some (id, .memo K.P k I'))).put o.dst .und)) : CallS K st o Q := by
  intro σ a w hr
  refine wpIn_of (by rw [ho]; intro c hc; cases hc) ?_
  simp only [plain1, Option.bind_eq_some_iff] at h3 h4
  obtain ⟨ak, hak, hpk⟩ := h3
  obtain ⟨av, hav, hpv⟩ := h4
  have e1 := plainOf_rel (hr.evF kx ak hak) hpk
  have e2 := plainOf_rel (hr.evF vx av hav) hpv
  obtain ⟨P', k', I', b, g1, g2, g3⟩ := hr.evF m _ h1
  have g1' : AL.get st.hp id = some (.memo P' k' I') := g1
  rw [h2] at g1'; cases g1'
  obtain ⟨b', g4, g5⟩ := hr.heap.objs id _ h2
  have g4' : σ id = some (.map (some b')) := g4
  have g2' : σ id = some (.map (some b)) := g2
  rw [g2'] at g4'; cases g4'
  obtain ⟨ob, hu, hm⟩ := MapInv.updateK KL ht g5 hk hI hy ha
  have hrun : (execOp a.eval o).run K.P w = .ok .skip (w.putObj b ob) := by
    simp only [execOp, ho, e1, e2, g3, Sem.run_bind, Sem.run_pure]
    rw [show (Instr.mapUpdate T (.map (some b)) kv vv).run K.P w = .ok () (w.putObj b ob) from hu]
    rfl
  rw [hrun, Oper.uponIn_skip]
  obtain ⟨p1, p2⟩ := set_memo hr.heap (s := sit K σ st w) h2 g2 (o := ob) hm
  have hp : Put (sit K σ st w) id (.memo K.P k I') (.map (some b)) (w.putObj b ob) :=
    ⟨p1, p2, fun k hk hne => World.putObj_heap_other (fun e => hne _ g2 (by rw [e]; rfl)), by simp [sit], rfl, rfl, rfl⟩
  exact ⟨_, _, (hr.upd hp).put hd (av := .und) (v := undef) rfl, h⟩

theorem callS_lookupK {st : St} {o : Oper} {Q : St → Prop} {T k e : TypeId} {m kx : Operand} (hd : dstOK K o.dst = true) (ho : o.op = .lookup T m kx true) (KL : KLaw K.P k) (ht : K.P.underlying T = some (.map k e)) {z : Value} (hz : ∀ w, (zeroValue e).run K.P w = .ok z w) {id : Nat} {I : MI}
    (h1 : evalA (AL.get st.fr) m = some (.one (.memo id))) (h2 : AL.get st.hp id = some (.memo K.P k I)) {kv : Value} {l : Lit} (h3 : plain1 (AL.get st.fr) kx = some kv) (hk : keyOf K.P k kv = some l)
    (hyes : ∀ v, I.yes kv v → ∃ rv, (∀ Z w, RelR Z w rv v) ∧ Q (st.put o.dst (.tup [rv, .one (.v (.bool true))]))) (hno : (∀ b, ¬ I.all kv b) → ∃ rv, (∀ Z w, RelR Z w rv z) ∧ Q (st.put o.dst (.tup [rv, .one (.v (.bool false))]))) : CallS K st o Q := by
  intro σ a w hr
  refine wpIn_of (by rw [ho]; intro c hc; cases hc) ?_
  simp only [plain1, Option.bind_eq_some_iff] at h3
  obtain ⟨ak, hak, hpk⟩ := h3
  have e1 := plainOf_rel (hr.evF kx ak hak) hpk
  obtain ⟨P', k', I', b, g1, g2, g3⟩ := hr.evF m _ h1
  have g1' : AL.get st.hp id = some (.memo P' k' I') := g1
  rw [h2] at g1'; cases g1'
  obtain ⟨b', g4, g5⟩ := hr.heap.objs id _ h2
  have g4' : σ id = some (.map (some b')) := g4
  have g2' : σ id = some (.map (some b)) := g2
  rw [g2'] at g4'; cases g4'
  obtain ⟨v, ok, hrunl, hcase⟩ := MapInv.lookupK KL ht hz g5 hk
  have hrun : (execOp a.eval o).run K.P w = .ok (.value (.tuple #[v, .bool ok])) w := by
    simp only [execOp, ho, e1, g3, Sem.run_bind, Sem.run_pure]
    rw [show (Instr.lookup T (.map (some b)) kv true).run K.P w = .ok (.tuple #[v, .bool ok]) w from hrunl w rfl]
    rfl
  rw [hrun, Oper.uponIn_value]
  have fin : ∀ (rv : RV) (t : Bool), (∀ Z w, RelR Z w rv v) → RelV (sit K σ st w) (.tup [rv, .one (.v (.bool t))]) (.tuple #[v, .bool t]) := by
    intro rv t hrv
    refine ⟨#[v, .bool t], rfl, rfl, fun j r hj => ?_⟩
    rcases j with _ | _ | j
    · simp at hj; subst hj; exact ⟨v, rfl, hrv _ _⟩
    · simp at hj; subst hj; exact ⟨.bool t, rfl, .v _ rfl⟩
    · simp at hj
  rcases hcase with ⟨rfl, hi⟩ | ⟨rfl, rfl, hi⟩
  · obtain ⟨rv, hrv, hq⟩ := hyes v hi
    exact ⟨σ, _, hr.put hd (fin rv true hrv), hq⟩
  · obtain ⟨rv, hrv, hq⟩ := hno hi
    exact ⟨σ, _, hr.put hd (fin rv false hrv), hq⟩
end Go.Pv
