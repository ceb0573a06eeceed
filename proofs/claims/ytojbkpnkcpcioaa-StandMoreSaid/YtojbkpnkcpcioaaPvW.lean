/- The logic of plain data, fourth part: contracts of functions that look at the caller's objects. Seat-independent. -/
import Derived.Test.YtojbkpnkcpcioaaKd
set_option linter.all false
namespace Go.Pv
open Go Go.RowKit Go.Sh
variable {K : Kx}

/-- What something names is there. -/
def There (h : Nat → Option Obj') (l : List Nat) : Prop := ∀ i ∈ l, ∃ o, h i = some o
theorem there_C {s : Sit} {c : AC} {u : Value} (h : RelC s c u) : There s.h (refsC c) := by
  intro i hi
  cases c with
  | own t n => simp [refsC] at hi; subst hi; obtain ⟨E, k, rows, sh, l, h1, _⟩ := h; exact ⟨_, h1⟩
  | box b o => simp [refsC] at hi; subst hi; obtain ⟨cs, blk, h1, _⟩ := h; exact ⟨_, h1⟩
  | oix t j o => simp [refsC] at hi; subst hi; obtain ⟨E, k, rows, sh, l, h1, _⟩ := h; exact ⟨_, h1⟩
  | fn f caps =>
    obtain ⟨us, rfl, hs, h⟩ := h
    simp only [refsC, List.mem_flatMap] at hi
    obtain ⟨cc, hcc, hi⟩ := hi
    obtain ⟨j, hj, he⟩ := List.getElem_of_mem hcc
    obtain ⟨x, hx, hr⟩ := h j cc (by rw [← he]; simp [hj])
    cases cc with
    | box b => simp [refsCC] at hi; subst hi; obtain ⟨cs, blk, h1, _⟩ := hr; exact ⟨_, h1⟩
    | p x => simp [refsCC] at hi
  | _ => simp [refsC] at hi
theorem there_Cs {s : Sit} {cs : List AC} {us : Array Value} (h : RelCs s cs us) : There s.h (cs.flatMap refsC) := by
  intro i hi
  obtain ⟨c, hc, hi⟩ := List.mem_flatMap.1 hi
  obtain ⟨j, hj, he⟩ := List.getElem_of_mem hc
  obtain ⟨x, _, hr⟩ := h.2 j c (by rw [← he]; simp [hj])
  exact there_C hr i hi
theorem there_V {s : Sit} {av : AV} {u : Value} (h : RelV s av u) : There s.h (refsV av) := by
  intro i hi
  cases av with
  | one c => exact there_C h i hi
  | agg cs => obtain ⟨us, rfl, h⟩ := h; exact there_Cs h i hi
  | _ => simp [refsV] at hi
theorem there_O {s : Sit} {id : Nat} {o : Obj'} (h : RelO s id o) (hn : ∀ fr tm, o = .kept fr tm → ∀ p ∈ fr, AL.get fr p.1 = some p.2) : There s.h (refsO o) := by
  intro i hi
  cases o with
  | box cs => obtain ⟨blk, vs, ty, _, _, h⟩ := h; exact there_Cs h i hi
  | arr E k rows sh => simp [refsO] at hi
  | kept fr tm =>
    simp only [refsO, List.mem_flatMap] at hi
    obtain ⟨p, hp, hi⟩ := hi
    exact there_V (h p.1 p.2 (hn fr tm rfl p hp)) i hi

/-- A situation of some objects only, all of whose references stay among them. -/
theorem rel_sub {σ : Nat → Option Value} {st T : St} {a : Act} {w : World} (hr : Rel K σ st a w) (hfr : ∀ t av, AL.get T.fr t = some av → AL.get st.fr t = some av) (hhp : ∀ id o, AL.get T.hp id = some o → AL.get st.hp id = some o)
    (hnx : ∀ id o, AL.get T.hp id = some o → id < T.nx) (hcf : ∀ t av, AL.get T.fr t = some av → There (AL.get T.hp) (refsV av))
    (hco : ∀ id o, AL.get T.hp id = some o → (∀ fr tm, o ≠ .kept fr tm) → There (AL.get T.hp) (refsO o)) (hck : ∀ id fr tm, AL.get T.hp id = some (.kept fr tm) → ∀ t av, AL.get fr t = some av → There (AL.get T.hp) (refsV av)) :
    ∃ σ', Rel K σ' T a w ∧ ∀ av u, There (AL.get T.hp) (refsV av) → RelV (sit K σ st w) av u → RelV (sit K σ' T w) av u := by
  let ids : List Nat := (List.range T.nx).filter fun i => (AL.get T.hp i).isSome
  have hids : ∀ i, i ∈ ids ↔ ∃ o, AL.get T.hp i = some o := by
    intro i
    simp only [ids, List.mem_filter, List.mem_range]
    constructor
    · rintro ⟨_, h⟩; exact Option.isSome_iff_exists.1 h
    · rintro ⟨o, ho⟩; exact ⟨hnx i o ho, by rw [ho]; rfl⟩
  have hh : ∀ i, AL.get T.hp i = if i ∈ ids then (sit K σ st w).h i else none := by
    intro i
    split
    · rename_i h
      obtain ⟨o, ho⟩ := (hids i).1 h
      rw [ho]; exact (hhp i o ho).symm
    · rename_i h
      cases hg : AL.get T.hp i with
      | none => rfl
      | some o => exact absurd ((hids i).2 ⟨o, hg⟩) h
  have hin : ∀ {l : List Nat}, There (AL.get T.hp) l → ∀ i ∈ l, i ∈ ids := fun h i hi => (hids i).2 (h i hi)
  refine ⟨fun i => if i ∈ ids then σ i else none, ⟨⟨fun id o ho => ?_, fun id l hl => ?_, fun i i' l l' b hi hi' hb hb' => ?_, fun i l b hi hb => ?_⟩, fun t av ht => ?_, hnx, hr.df, hr.nt, hr.frm⟩, fun av u hth hv => ?_⟩
  · have ho' : AL.get T.hp id = some o := ho
    have hid : id ∈ ids := (hids id).2 ⟨o, ho'⟩
    have h0 := hr.heap.objs id o (hhp id o ho')
    have hs : sit K (fun i => if i ∈ ids then σ i else none) T w = (sit K σ st w).sub ids (AL.get T.hp) := rfl
    rw [hs]
    cases o with
    | box cs =>
      obtain ⟨blk, vs, ty, h1, h2, h3⟩ := h0
      exact ⟨blk, vs, ty, by show (if id ∈ ids then σ id else none) = _; rw [if_pos hid]; exact h1, h2, sub_relCs hh h3 (hin (hco id _ ho' (fun _ _ h => by cases h)))⟩
    | arr E k rows sh =>
      obtain ⟨val, xs, h1, h2, h3, h4⟩ := h0
      exact ⟨val, xs, by show (if id ∈ ids then σ id else none) = _; rw [if_pos hid]; exact h1, h2, h3, fun i row j c hi hj => let ⟨u, hu, hru⟩ := h4 i row j c hi hj; ⟨u, hu, sub_relP hh hru⟩⟩
    | kept fr' tm =>
      intro t av ht
      exact sub_relV hh (h0 t av ht) (hin (hck id fr' tm ho' t av ht))
  · simp only [sit] at hl ⊢
    split at hl
    · rename_i hid
      exact (hids id).1 hid
    · cases hl
  · simp only [sit] at hi hi'
    split at hi
    · split at hi'
      · exact hr.heap.inj i i' l l' b hi hi' hb hb'
      · cases hi'
    · cases hi
  · simp only [sit] at hi
    split at hi
    · exact hr.heap.lt i l b hi hb
    · cases hi
  · obtain ⟨h1, h2⟩ := hr.fr t av (hfr t av ht)
    exact ⟨h1, sub_relV hh h2 (hin (hcf t av ht))⟩
  · exact sub_relV hh hv (hin hth)

/-- All that a state names is there. -/
structure Closed (st : St) : Prop where
  lt : ∀ id o, AL.get st.hp id = some o → id < st.nx
  fr : ∀ t av, AL.get st.fr t = some av → There (AL.get st.hp) (refsV av)
  obj : ∀ id o, AL.get st.hp id = some o → (∀ fr tm, o ≠ .kept fr tm) → There (AL.get st.hp) (refsO o)
  kept : ∀ id fr tm, AL.get st.hp id = some (.kept fr tm) → ∀ t av, AL.get fr t = some av → There (AL.get st.hp) (refsV av)
theorem Rel.closed {σ : Nat → Option Value} {st : St} {a : Act} {w : World} (h : Rel K σ st a w) : Closed st :=
  ⟨h.lt, fun t av ht => there_V (h.fr t av ht).2, fun id o ho hk => there_O (h.heap.objs id o ho) fun fr tm e => absurd e (hk fr tm), fun id fr tm ho t av ht => there_V (h.heap.objs id _ ho t av ht)⟩
/-- One object turned. -/
theorem Closed.set {st : St} (h : Closed st) {b : Nat} {o o' : Obj'} (hb : AL.get st.hp b = some o) (hn : ∀ fr tm, o' ≠ .kept fr tm) (hr : There (AL.get st.hp) (refsO o')) : Closed ⟨st.fr, AL.set st.hp b o', st.nx⟩ := by
  have hd : ∀ {l : List Nat}, There (AL.get st.hp) l → There (AL.get (AL.set st.hp b o')) l := by
    intro l hl i hi
    obtain ⟨x, hx⟩ := hl i hi
    rw [AL.get_set]
    split
    · exact ⟨_, rfl⟩
    · exact ⟨x, hx⟩
  refine ⟨fun id x hx => ?_, fun t av ht => hd (h.fr t av ht), fun id x hx hk => ?_, fun id fr tm hx t av ht => ?_⟩
  · have hx : AL.get (AL.set st.hp b o') id = some x := hx
    rw [AL.get_set] at hx
    split at hx
    · rename_i e; subst e; exact h.lt _ _ hb
    · exact h.lt _ _ hx
  · have hx : AL.get (AL.set st.hp b o') id = some x := hx
    rw [AL.get_set] at hx
    split at hx
    · cases hx; exact hd hr
    · exact hd (h.obj id x hx hk)
  · have hx : AL.get (AL.set st.hp b o') id = some (.kept fr tm) := hx
    rw [AL.get_set] at hx
    split at hx
    · cases hx; exact absurd rfl (hn fr tm)
    · exact hd (h.kept id fr tm hx t av ht)

/-- A call, walked in place, that leaves the caller's objects as T has them, and what it made is let go. -/
theorem callF_to {fid : FuncId} {avs : List AV} {st : St} {Q : St → AV → Prop} {fn : Func} {c : Code} {nt : Nat} {rs : List ResultVar} (hf : K.P.funcs[fid]? = some fn) (hb : fn.body = some c) (hnt : fn.ntmps = nt) (hrs : fn.results.toList = rs) (hn : avs.length ≤ nt)
    (h : Closed st → ∀ tm, AW { K with nt := nt } c (fun e st' => (e = .normal ∨ e = .ret) ∧ ∃ av, resV K.P st' rs = some av ∧ AL.get st'.hp st.nx = some (.kept st.fr tm) ∧
      ∃ T : St, T.fr = st.fr ∧ Closed T ∧ (∀ id o, AL.get T.hp id = some o → AL.get st'.hp id = some o) ∧ There (AL.get T.hp) (refsV av) ∧ Q T av) ⟨initV 0 avs, (st.nx, .kept st.fr tm) :: st.hp, st.nx + 1⟩) : CallF K fid avs st Q := by
  intro σ a w us hr hus
  have hc := hr.closed
  have := callF_in (K := K) (Q := fun st' av => ∃ T : St, T.fr = st.fr ∧ st'.fr = st.fr ∧ Closed T ∧ (∀ id o, AL.get T.hp id = some o → AL.get st'.hp id = some o) ∧ There (AL.get T.hp) (refsV av) ∧ Q T av) hf hb hnt hrs hn
    (fun tm => (h hc tm).mono fun e st' ⟨h1, av, h2, h3, T, h4, h5, h6, h7, h8⟩ => ⟨h1, av, h2, h3, T, h4, rfl, h5, h6, h7, h8⟩) σ a w us hr hus
  refine this.mono fun e w' ⟨u, he, σ', st', av, h1, h2, T, h3, h3', h4, h5, h6, h7⟩ => ?_
  obtain ⟨σ'', hrel, hv⟩ := rel_sub h1 (T := T) (fun t av ht => by rw [h3'] ; rw [h3] at ht; exact ht) h5 h4.lt h4.fr h4.obj h4.kept
  exact ⟨u, he, σ'', T, av, hrel, hv av u h6 h2, h7⟩

/-- Slots left out. -/
theorem weak_fr {st : St} {fr' : List (Nat × AV)} (slots : List Nat) (h : takeAL st.fr slots = some fr') : Weak K st ⟨fr', st.hp, st.nx⟩ := by
  intro σ a w hr
  refine ⟨σ, hr.heap, fun t av ht => ?_, hr.lt, hr.df, hr.nt, hr.frm⟩
  have ht' : AL.get fr' t = some av := ht
  rw [takeAL_get h] at ht'
  split at ht'
  · exact hr.fr t av ht'
  · cases ht'
theorem weak_thr {st : St} {fr' : List (Nat × AV)} (slots : List Nat) (h : takeAL st.fr (there st.fr slots) = some fr') : Weak K st ⟨fr', st.hp, st.nx⟩ := weak_fr _ h
/-- A loop whose objects are known by facts alone. -/
theorem aw_loop_hp {ι : Type} {body : Code} {Q : Exit → St → Prop} {st : St} (fo : ι → List (Nat × AV)) (F : ι → List (Nat × Obj') → Nat → Prop) (μ : ι → Nat) (i : ι) (h0 : ovL (fo i) st.fr = st.fr) (hF : F i st.hp st.nx)
    (h : ∀ j hp nx, F j hp nx → AW K body (thenA (fun st' => ∃ j', μ j' < μ j ∧ F j' st'.hp st'.nx ∧ takeAL st'.fr (keys (ovL (fo j') st.fr)) = some (ovL (fo j') st.fr)) Q) ⟨ovL (fo j) st.fr, hp, nx⟩) : AW K (.loop body) Q st := by
  have := aw_loop (K := K) (body := body) (Q := Q) (ι := { p : ι × List (Nat × Obj') × Nat // F p.1 p.2.1 p.2.2 }) (fun p => ⟨ovL (fo p.1.1) st.fr, p.1.2.1, p.1.2.2⟩) (fun p => μ p.1.1)
    (fun ⟨⟨j, hp, nx⟩, hf⟩ => (h j hp nx hf).mono fun e st' hq => by
      cases e with
      | normal =>
        obtain ⟨j', h1, h2, h3⟩ := hq
        exact ⟨⟨(j', st'.hp, st'.nx), h2⟩, h1, weak_fr _ h3⟩
      | _ => exact hq) ⟨(i, st.hp, st.nx), hF⟩
  simp only [h0] at this
  exact this
end Go.Pv
