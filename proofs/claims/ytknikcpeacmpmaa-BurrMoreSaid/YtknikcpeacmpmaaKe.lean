/- Ke: texts joined (PvF PvE PvG PvN PvP PvI). -/
import Derived.Test.YtknikcpeacmpmaaKd
import Derived.RecoverIn
import Derived.RangeFuncNested
set_option linter.all false
/- The logic of plain data: contracts of functions that look at a caller's boxes and maps and leave them as they were, proved in a state that holds nothing else. Seat-independent. -/
namespace Go.Pv
open Go Go.RowKit Go.Sh
variable {K : Kx}

/-- Names turned. -/
def renCC (ρ : Nat → Nat) : CC → CC
  | .box b => .box (ρ b)
  | .p x => .p x
def renC (ρ : Nat → Nat) : AC → AC
  | .own t n => .own (ρ t) n
  | .box b o => .box (ρ b) o
  | .oix t i o => .oix (ρ t) i o
  | .fn f caps => .fn f (caps.map (renCC ρ))
  | .memo m => .memo (ρ m)
  | .yld l => .yld (ρ l)
  | .ifc T b => .ifc T (ρ b)
  | c => c
def renV (ρ : Nat → Nat) : AV → AV
  | .one c => .one (renC ρ c)
  | .agg cs => .agg (cs.map (renC ρ))
  | v => v
def renO (ρ : Nat → Nat) : Obj' → Obj'
  | .box cs => .box (cs.map (renC ρ))
  | o => o
/-- Boxes and maps. -/
def isBM : Obj' → Bool
  | .box _ => true
  | .memo _ _ _ => true
  | _ => false
def pinOf : Nat × Obj' → Nat × AV
  | (id, .box _) => (id, .one (.box id 0))
  | (id, _) => (id, .one (.memo id))
/-- The slots that hold on to the objects. -/
def pins (hp : List (Nat × Obj')) : List (Nat × AV) := hp.map pinOf
theorem pinOf_fst (p : Nat × Obj') : (pinOf p).1 = p.1 := by
  obtain ⟨i, o⟩ := p
  cases o <;> rfl
theorem pins_get : ∀ (hp : List (Nat × Obj')) (t : Nat), AL.get (pins hp) t = (AL.get hp t).map fun o => (pinOf (t, o)).2
  | [], t => rfl
  | (i, o) :: r, t => by
    have hp := pinOf_fst (i, o)
    show AL.get (pinOf (i, o) :: pins r) t = _
    obtain ⟨j, av⟩ : ∃ x : Nat × AV, x = pinOf (i, o) := ⟨_, rfl⟩
    cases hq : pinOf (i, o) with
    | mk j v =>
      rw [hq] at hp
      simp only at hp
      subst hp
      simp only [AL.get]
      by_cases h : t = j
      · subst h; simp [hq]
      · rw [if_neg h, if_neg h, pins_get r t]
theorem pins_at {hp : List (Nat × Obj')} {t : Nat} {o : Obj'} (h : AL.get hp t = some o) : AL.get (pins hp) t = some (pinOf (t, o)).2 := by rw [pins_get, h]; rfl

theorem al_mem {α : Type} : ∀ {l : List (Nat × α)} {t : Nat} {x : α}, AL.get l t = some x → (t, x) ∈ l
  | [], t, x, h => by cases h
  | (i, y) :: r, t, x, h => by
    simp only [AL.get] at h
    split at h
    · rename_i e; subst e; cases h; exact List.mem_cons_self
    · exact List.mem_cons_of_mem _ (al_mem h)

/-- A function that looks at objects and leaves them as they were. -/
def FunS (P : Program) (fid : FuncId) (avs : List AV) (hp : List (Nat × Obj')) (nx : Nat) (r : RR) : Prop :=
  ∀ Z w0 cap nt pan, CallF ⟨P, Z, w0, cap, nt, none, pan, none, [], false⟩ fid avs ⟨pins hp, hp, nx⟩ fun st' av => st' = ⟨pins hp, hp, nx⟩ ∧ av = avRR r
/-- The same, of one that panics. -/
def FunSX (P : Program) (fid : FuncId) (avs : List AV) (hp : List (Nat × Obj')) (nx : Nat) (v : Value) : Prop :=
  ∀ Z w0 cap nt pan, (∀ ps st', ps = [{ v := v, recovered := false }] → st' = ⟨pins hp, hp, nx⟩ → pan ps st') → CallF ⟨P, Z, w0, cap, nt, none, pan, none, [], false⟩ fid avs ⟨pins hp, hp, nx⟩ fun _ _ => False

section
variable {σ : Nat → Option Value} {st : St} {a : Act} {w : World} {hp : List (Nat × Obj')} {ρ : Nat → Nat}

/-- The blocks of the objects that are looked at. -/
def capS (hp : List (Nat × Obj')) (ρ : Nat → Nat) (σ : Nat → Option Value) (k : Nat) : Prop := ∃ id o l, AL.get hp id = some o ∧ σ (ρ id) = some l ∧ locBlk l = some k
def sigS (hp : List (Nat × Obj')) (ρ : Nat → Nat) (σ : Nat → Option Value) (id : Nat) : Option Value := if (AL.get hp id).isSome then σ (ρ id) else none
theorem sigS_at {id : Nat} {o : Obj'} (h : AL.get hp id = some o) : sigS hp ρ σ id = σ (ρ id) := by unfold sigS; rw [h]; rfl
theorem sigS_some {id : Nat} {l : Value} (h : sigS hp ρ σ id = some l) : ∃ o, AL.get hp id = some o ∧ σ (ρ id) = some l := by
  unfold sigS at h
  split at h
  · rename_i he
    obtain ⟨o, ho⟩ := Option.isSome_iff_exists.1 he
    exact ⟨o, ho, h⟩
  · cases h

theorem safe_down {s : Sit} (hk : ∀ id o, AL.get hp id = some o → isBM o = true) (hO : ∀ id o, AL.get hp id = some o → s.h (ρ id) = some (renO ρ o)) {b c : Nat} (h : s.Safe b c) :
    Sit.Safe ⟨s.Safe, w.heap.size, capS hp ρ s.σ, sigS hp ρ s.σ, AL.get hp, w⟩ b c := by
  refine ⟨.inl h, fun id l hl hb => ?_⟩
  obtain ⟨o, ho, hσ⟩ := sigS_some (ρ := ρ) hl
  obtain ⟨E, k, rows, h1, _⟩ := h.2 (ρ id) l hσ hb
  rw [hO id o ho] at h1
  have := hk id o ho
  cases o <;> simp [renO, isBM] at h1 this

theorem down_P {s : Sit} (hw : s.w = w) (hk : ∀ id o, AL.get hp id = some o → isBM o = true) (hO : ∀ id o, AL.get hp id = some o → s.h (ρ id) = some (renO ρ o)) {x : PV} {u : Value} (h : RelP s.Safe s.w x u) :
    RelP (Sit.Safe ⟨s.Safe, w.heap.size, capS hp ρ s.σ, sigS hp ρ s.σ, AL.get hp, w⟩) w x u :=
  h.mono fun b c u hs hc => ⟨safe_down hk hO hs, by rw [← hw]; exact hc⟩

theorem box_down {s : Sit} (hk : ∀ id o, AL.get hp id = some o → isBM o = true) (hO : ∀ id o, AL.get hp id = some o → s.h (ρ id) = some (renO ρ o)) {b : Nat} {cs : List AC} (hb : ∃ o, AL.get hp b = some o) (h : s.h (ρ b) = some (.box cs)) : ∃ cs0, AL.get hp b = some (.box cs0) := by
  obtain ⟨o, ho⟩ := hb
  have h1 := hO b o ho
  rw [h] at h1
  have := hk b o ho
  cases o <;> simp [renO, isBM] at h1 this
  exact ⟨_, ho⟩
theorem arr_down {s : Sit} (hk : ∀ id o, AL.get hp id = some o → isBM o = true) (hO : ∀ id o, AL.get hp id = some o → s.h (ρ id) = some (renO ρ o)) {b : Nat} {E : TypeId} {k : Nat} {rows : List (List PV)} {sh : Bool} (hb : ∃ o, AL.get hp b = some o) (h : s.h (ρ b) = some (.arr E k rows sh)) : False := by
  obtain ⟨o, ho⟩ := hb
  have h1 := hO b o ho
  rw [h] at h1
  have := hk b o ho
  cases o <;> simp [renO, isBM] at h1 this
theorem lp_down {s : Sit} (hk : ∀ id o, AL.get hp id = some o → isBM o = true) (hO : ∀ id o, AL.get hp id = some o → s.h (ρ id) = some (renO ρ o)) {l b : Nat} {r : Loop} (hb : ∃ o, AL.get hp l = some o) (h : s.h (ρ l) = some (.lp b r)) : False := by
  obtain ⟨o, ho⟩ := hb
  have h1 := hO l o ho
  rw [h] at h1
  have := hk l o ho
  cases o <;> simp [renO, isBM] at h1 this

theorem down_CC {s : Sit} (hw : s.w = w) (hk : ∀ id o, AL.get hp id = some o → isBM o = true) (hO : ∀ id o, AL.get hp id = some o → s.h (ρ id) = some (renO ρ o)) {c : CC} {u : Value} (hr : There (AL.get hp) (refsCC c)) (h : RelCC s (renCC ρ c) u) :
    RelCC ⟨s.Safe, w.heap.size, capS hp ρ s.σ, sigS hp ρ s.σ, AL.get hp, w⟩ c u := by
  cases c with
  | box b =>
    obtain ⟨cs, blk, h1, h2, h3⟩ := h
    have hb := hr b (by simp [refsCC])
    obtain ⟨cs0, h0⟩ := box_down hk hO hb h1
    exact ⟨cs0, blk, h0, by show sigS hp ρ s.σ b = _; rw [sigS_at h0]; exact h2, h3⟩
  | p x => exact down_P hw hk hO h

theorem down_C {s : Sit} (hw : s.w = w) (hk : ∀ id o, AL.get hp id = some o → isBM o = true) (hO : ∀ id o, AL.get hp id = some o → s.h (ρ id) = some (renO ρ o)) {c : AC} {u : Value} (hr : There (AL.get hp) (refsC c)) (h : RelC s (renC ρ c) u) :
    RelC ⟨s.Safe, w.heap.size, capS hp ρ s.σ, sigS hp ρ s.σ, AL.get hp, w⟩ c u := by
  cases c with
  | p x => exact down_P hw hk hO h
  | own t n =>
    obtain ⟨E, k, rows, sh, l, h1, _⟩ := h
    exact (arr_down hk hO (hr t (by simp [refsC])) h1).elim
  | nil => exact h
  | box b o =>
    obtain ⟨cs, blk, h1, h2, h3⟩ := h
    obtain ⟨cs0, h0⟩ := box_down hk hO (hr b (by simp [refsC])) h1
    exact ⟨cs0, blk, h0, by show sigS hp ρ s.σ b = _; rw [sigS_at h0]; exact h2, h3⟩
  | ix row o =>
    obtain ⟨b, off, us, h1, h2⟩ := h
    refine ⟨b, off, us, h1, fun j c hj => ?_⟩
    obtain ⟨g1, g2, g3⟩ := h2 j c hj
    exact ⟨safe_down hk hO g1, by rw [← hw]; exact g2, down_P hw hk hO g3⟩
  | oix t i o =>
    obtain ⟨E, k, rows, sh, l, h1, _⟩ := h
    exact (arr_down hk hO (hr t (by simp [refsC])) h1).elim
  | fn f caps =>
    obtain ⟨us, h1, h2, h3⟩ := h
    refine ⟨us, h1, by simpa using h2, fun j c hj => ?_⟩
    obtain ⟨x, hx, hrx⟩ := h3 j (renCC ρ c) (by rw [List.getElem?_map, hj]; rfl)
    refine ⟨x, hx, down_CC hw hk hO (fun i hi => hr i ?_) hrx⟩
    simp only [refsC, List.mem_flatMap]
    exact ⟨c, List.mem_of_getElem? hj, hi⟩
  | any => exact h
  | memo m =>
    obtain ⟨P, k, I, b, h1, h2, h3⟩ := h
    obtain ⟨o, ho⟩ := hr m (by simp [refsC])
    have h4 := hO m o ho
    rw [show s.h (ρ m) = _ from h1] at h4
    have hb := hk m o ho
    have : o = .memo P k I := by cases o <;> simp [renO, isBM] at h4 hb; obtain ⟨rfl, rfl, rfl⟩ := h4; rfl
    subst this
    exact ⟨P, k, I, b, ho, by show sigS hp ρ s.σ m = _; rw [sigS_at ho]; exact h2, h3⟩
  | yld l =>
    obtain ⟨r, b, h1, _⟩ := h
    exact (lp_down hk hO (hr l (by simp [refsC])) h1).elim
  | bfn f first =>
    obtain ⟨us, h1, h2⟩ := h
    exact ⟨us, h1, h2.mono fun b c u hs hc => ⟨safe_down hk hO hs, by rw [← hw]; exact hc⟩⟩
  | ifc T b =>
    obtain ⟨cs, blk, h1, h2, h3⟩ := h
    obtain ⟨cs0, h0⟩ := box_down hk hO (hr b (by simp [refsC])) h1
    exact ⟨cs0, blk, h0, by show sigS hp ρ s.σ b = _; rw [sigS_at h0]; exact h2, h3⟩
theorem down_Cs {s : Sit} (hw : s.w = w) (hk : ∀ id o, AL.get hp id = some o → isBM o = true) (hO : ∀ id o, AL.get hp id = some o → s.h (ρ id) = some (renO ρ o)) {cs : List AC} {us : Array Value} (hr : There (AL.get hp) (cs.flatMap refsC)) (h : RelCs s (cs.map (renC ρ)) us) :
    RelCs ⟨s.Safe, w.heap.size, capS hp ρ s.σ, sigS hp ρ s.σ, AL.get hp, w⟩ cs us := by
  refine ⟨by simpa using h.1, fun j c hj => ?_⟩
  obtain ⟨x, hx, hrx⟩ := h.2 j (renC ρ c) (by rw [List.getElem?_map, hj]; rfl)
  exact ⟨x, hx, down_C hw hk hO (fun i hi => hr i (List.mem_flatMap.2 ⟨c, List.mem_of_getElem? hj, hi⟩)) hrx⟩
theorem down_V {s : Sit} (hw : s.w = w) (hk : ∀ id o, AL.get hp id = some o → isBM o = true) (hO : ∀ id o, AL.get hp id = some o → s.h (ρ id) = some (renO ρ o)) {av : AV} {u : Value} (hr : There (AL.get hp) (refsV av)) (h : RelV s (renV ρ av) u) :
    RelV ⟨s.Safe, w.heap.size, capS hp ρ s.σ, sigS hp ρ s.σ, AL.get hp, w⟩ av u := by
  cases av with
  | one c => exact down_C hw hk hO hr h
  | agg cs =>
    obtain ⟨us, h1, h2⟩ := h
    exact ⟨us, h1, down_Cs hw hk hO hr h2⟩
  | tup rs =>
    obtain ⟨us, h1, h2⟩ := h
    exact ⟨us, h1, h2.mono fun b c u hs hc => ⟨safe_down hk hO hs, by rw [← hw]; exact hc⟩⟩
  | any => exact h
  | und => exact h

/-- Back: what stands for something in the small state stands for it in the great one. -/
theorem up_P {s : Sit} (H : Heap0 s) {σ' : Nat → Option Value} {cap : Nat → Prop} {w' : World} {x : PV} {u : Value} (hbase : s.base ≤ s.w.heap.size) (h : RelP (Sit.Safe ⟨s.Safe, s.w.heap.size, cap, σ', AL.get hp, w'⟩) w' x u) :
    RelP (s.at w').Safe w' x u := by
  refine h.mono fun b c u hs hc => ⟨?_, hc⟩
  rcases hs.1 with h1 | h1
  · exact h1
  · refine ⟨.inr (Nat.le_trans hbase h1), fun id l hl hb => ?_⟩
    have := (H.lt id l b hl hb).1
    have h1' : s.w.heap.size ≤ b := h1
    omega
theorem up_CC {s : Sit} (H : Heap0 s) (hbase : s.base ≤ s.w.heap.size) (hk : ∀ id o, AL.get hp id = some o → isBM o = true) (hO : ∀ id o, AL.get hp id = some o → s.h (ρ id) = some (renO ρ o)) {σ' : Nat → Option Value} {cap : Nat → Prop} {w' : World} (hσ : ∀ id o, AL.get hp id = some o → σ' id = s.σ (ρ id)) {c : CC} {u : Value}
    (h : RelCC ⟨s.Safe, s.w.heap.size, cap, σ', AL.get hp, w'⟩ c u) : RelCC (s.at w') (renCC ρ c) u := by
  cases c with
  | box b =>
    obtain ⟨cs, blk, h1, h2, h3⟩ := h
    exact ⟨cs.map (renC ρ), blk, hO b _ h1, (hσ b _ h1).symm.trans h2, h3⟩
  | p x => exact up_P H hbase h
theorem up_C {s : Sit} (H : Heap0 s) (hbase : s.base ≤ s.w.heap.size) (hk : ∀ id o, AL.get hp id = some o → isBM o = true) (hO : ∀ id o, AL.get hp id = some o → s.h (ρ id) = some (renO ρ o)) {σ' : Nat → Option Value} {cap : Nat → Prop} {w' : World} (hσ : ∀ id o, AL.get hp id = some o → σ' id = s.σ (ρ id)) {c : AC} {u : Value}
    (h : RelC ⟨s.Safe, s.w.heap.size, cap, σ', AL.get hp, w'⟩ c u) : RelC (s.at w') (renC ρ c) u := by
  have hsafe : ∀ {b c : Nat}, Sit.Safe ⟨s.Safe, s.w.heap.size, cap, σ', AL.get hp, w'⟩ b c → (s.at w').Safe b c := by
    intro b c hs
    rcases hs.1 with h1 | h1
    · exact h1
    · refine ⟨.inr (Nat.le_trans hbase h1), fun id l hl hb => ?_⟩
      have := (H.lt id l b hl hb).1
      have h1' : s.w.heap.size ≤ b := h1
      omega
  cases c with
  | p x => exact up_P H hbase h
  | own t n =>
    obtain ⟨E, k, rows, sh, l, h1, _⟩ := h
    have := hk t _ h1
    cases this
  | nil => exact h
  | box b o =>
    obtain ⟨cs, blk, h1, h2, h3⟩ := h
    exact ⟨cs.map (renC ρ), blk, hO b _ h1, (hσ b _ h1).symm.trans h2, h3⟩
  | ix row o =>
    obtain ⟨b, off, us, h1, h2⟩ := h
    refine ⟨b, off, us, h1, fun j c hj => ?_⟩
    obtain ⟨g1, g2, g3⟩ := h2 j c hj
    exact ⟨hsafe g1, g2, up_P H hbase g3⟩
  | oix t i o =>
    obtain ⟨E, k, rows, sh, l, h1, _⟩ := h
    have := hk t _ h1
    cases this
  | fn f caps =>
    obtain ⟨us, h1, h2, h3⟩ := h
    refine ⟨us, h1, by simpa using h2, fun j c hj => ?_⟩
    rw [List.getElem?_map] at hj
    obtain ⟨c0, hc0, rfl⟩ := Option.map_eq_some_iff.1 hj
    obtain ⟨x, hx, hrx⟩ := h3 j c0 hc0
    exact ⟨x, hx, up_CC H hbase hk hO hσ hrx⟩
  | any => exact h
  | memo m =>
    obtain ⟨P, k, I, b, h1, h2, h3⟩ := h
    exact ⟨P, k, I, b, hO m _ h1, (hσ m _ h1).symm.trans h2, h3⟩
  | yld l =>
    obtain ⟨r, b, h1, _⟩ := h
    have := hk l _ h1
    cases this
  | bfn f first =>
    obtain ⟨us, h1, h2⟩ := h
    exact ⟨us, h1, h2.mono fun b c u hs hc => ⟨hsafe hs, hc⟩⟩
  | ifc T b =>
    obtain ⟨cs, blk, h1, h2, h3⟩ := h
    exact ⟨cs.map (renC ρ), blk, hO b _ h1, (hσ b _ h1).symm.trans h2, h3⟩

theorem rr_avRR {s : Sit} {r : RR} {u : Value} : RelV s (avRR r) u ↔ RelRR s.Safe s.w r u := by
  refine ⟨fun h => ?_, avRR_rel⟩
  cases r with
  | one r =>
    cases r with
    | one x => exact h
    | agg cs =>
      obtain ⟨us, rfl, hs, h⟩ := h
      refine ⟨us, rfl, by simpa using hs, fun j c hj => ?_⟩
      exact h j (.p c) (by rw [List.getElem?_map, hj]; rfl)
  | tup rs => exact h

/-- What the small call tells of the great state. -/
theorem lift_back (hr : Rel K σ st a w) (hk : ∀ id o, AL.get hp id = some o → isBM o = true) (hO : ∀ id o, AL.get hp id = some o → AL.get st.hp (ρ id) = some (renO ρ o)) {K0 : Kx} (hZ : K0.Z = (sit K σ st w).Safe) (hw0 : K0.w0 = w) (hcap : K0.cap = capS hp ρ σ)
    {a0 : Act} (ha0 : ∀ id o, AL.get hp id = some o → ∀ l, σ (ρ id) = some l → a0.tmps.getD id undef = l) {σ' : Nat → Option Value} {nx : Nat} {w' : World} (hr' : Rel K0 σ' ⟨pins hp, hp, nx⟩ a0 w') :
    Rel K σ st a w' ∧ ∀ r u, RelV (sit K0 σ' ⟨pins hp, hp, nx⟩ w') (avRR r) u → RelV (sit K σ st w') (avRR r) u := by
  have hbase : (sit K σ st w).base ≤ w.heap.size := hr.frm.size
  have hσ : ∀ id o, AL.get hp id = some o → σ' id = σ (ρ id) := by
    intro id o ho
    have hp1 := (hr'.fr id _ (pins_at ho)).2
    have hb := hk id o ho
    have hO' := hr.heap.objs (ρ id) _ (hO id o ho)
    cases o with
    | box cs =>
      obtain ⟨blk, vs, ty, h1, _⟩ := hO'
      have h1' : σ (ρ id) = some (.pointer (some ⟨blk, 0, none⟩)) := h1
      obtain ⟨cs', blk', g1, g2, g3⟩ := hp1
      have g2' : σ' id = some (.pointer (some ⟨blk', 0, none⟩)) := g2
      rw [ha0 id _ ho _ h1'] at g3
      rw [g2', h1', g3]
    | memo P k I =>
      obtain ⟨b, h1, _⟩ := hO'
      have h1' : σ (ρ id) = some (.map (some b)) := h1
      obtain ⟨P', k', I', b', g1, g2, g3⟩ := hp1
      have g2' : σ' id = some (.map (some b')) := g2
      rw [ha0 id _ ho _ h1'] at g3
      rw [g2', h1', g3]
    | _ => cases hb
  have hfrm : Frm (capS hp ρ σ) w w' := by have := hr'.frm; rw [hcap, hw0] at this; exact this
  have hblk : ∀ k, k < w.heap.size → ¬ capS hp ρ σ k → w'.heap[k]? = w.heap[k]? := fun k h1 h2 => hfrm.block k h1 h2
  have hnot : ∀ b c, (sit K σ st w).Safe b c → ¬ capS hp ρ σ b := by
    rintro b c hs ⟨id, o, l, h1, h2, h3⟩
    obtain ⟨E, k, rows, h4, _⟩ := hs.2 (ρ id) l h2 h3
    have h4' : AL.get st.hp (ρ id) = some (.arr E k rows true) := h4
    rw [hO id o h1] at h4'
    have := hk id o h1
    cases o <;> simp [renO, isBM] at h4' this
  have he : Ext (sit K σ st w) (sit K σ st w') := by
    refine ⟨fun b c u hs hc => ?_, fun b c _ hs => hs, fun id cs l h1 h2 => ⟨h2, cs, h1⟩, fun id E k rows sh l h1 h2 => ⟨rows, sh, l, h1, h2, .inl ⟨rfl, rfl, fun h => h⟩⟩, fun id P k I0 l h1 h2 => ⟨h2, I0, h1⟩, fun id b r l h1 h2 => ⟨h2, r, h1⟩⟩
    show w'.cell? _ = _
    rw [World.cell?_of_block (hblk b (World.block_lt_of_cell? _ _ hc) (hnot b c hs))]
    exact hc
  have hsit : sit K0 σ' ⟨pins hp, hp, nx⟩ w' = ⟨(sit K σ st w).Safe, (sit K σ st w).w.heap.size, capS hp ρ σ, σ', AL.get hp, w'⟩ := by
    unfold sit
    rw [hZ, hw0, hcap]
    rfl
  have hheap : Heap0 (sit K σ st w') := by
    refine ⟨fun id o ho => ?_, hr.heap.dom, hr.heap.inj, fun id l b hl hb => ?_⟩
    · have h0 := hr.heap.objs id o ho
      by_cases hid : ∃ i0 o0, AL.get hp i0 = some o0 ∧ ρ i0 = id
      · obtain ⟨i0, o0, h1, rfl⟩ := hid
        have h2 : AL.get st.hp (ρ i0) = some (renO ρ o0) := hO i0 o0 h1
        have ho' : AL.get st.hp (ρ i0) = some o := ho
        rw [h2] at ho'; cases ho'
        have h3 := hr'.heap.objs i0 o0 h1
        rw [hsit] at h3
        have hb := hk i0 o0 h1
        cases o0 with
        | box cs =>
          obtain ⟨blk, vs, ty, g1, g2, g3⟩ := h3
          refine ⟨blk, vs, ty, (hσ i0 _ h1).symm.trans g1, g2, by simpa using g3.1, fun j c hj => ?_⟩
          rw [List.getElem?_map] at hj
          obtain ⟨c0, hc0, rfl⟩ := Option.map_eq_some_iff.1 hj
          obtain ⟨x, hx, hrx⟩ := g3.2 j c0 hc0
          exact ⟨x, hx, up_C (s := sit K σ st w) hr.heap hbase hk hO (w' := w') hσ hrx⟩
        | memo P k I =>
          obtain ⟨b, g1, g2⟩ := h3
          exact ⟨b, (hσ i0 _ h1).symm.trans g1, g2⟩
        | _ => cases hb
      · refine h0.ext he rfl rfl fun l b hl hb => ?_
        refine hblk b (hr.heap.lt id l b hl hb).1 ?_
        rintro ⟨i0, o0, l0, h1, h2, h3⟩
        exact hid ⟨i0, o0, h1, hr.heap.inj _ _ l0 l b h2 hl h3 hb⟩
    · have := hr.heap.lt id l b hl hb
      exact ⟨Nat.lt_of_lt_of_le this.1 hfrm.size, this.2⟩
  refine ⟨⟨hheap, fun t av ht => ⟨(hr.fr t av ht).1, he.relV (hr.fr t av ht).2⟩, hr.lt, hr.df.to rfl rfl fun D hD => ?_, hr.nt, ?_⟩, fun r u hv => ?_⟩
  · unfold DfrAt at hD ⊢
    rw [hblk D (Array.getElem?_eq_some_iff.1 hD).1 ?_]
    · exact hD
    · rintro ⟨i0, o0, l0, h1, h2, h3⟩
      rcases hr.heap.cellsAt (s := sit K σ st w) h2 h3 with ⟨cs, t, fz, hc⟩ | ⟨es, ck, hc⟩ | ⟨r, hc⟩
      · rw [show (sit K σ st w).w.heap[D]? = _ from hD] at hc; cases hc
      · rw [show (sit K σ st w).w.heap[D]? = _ from hD] at hc; cases hc
      · rw [show (sit K σ st w).w.heap[D]? = _ from hD] at hc; cases hc
  · refine ⟨hfrm.os.trans hr.frm.os, hfrm.tape.trans hr.frm.tape, hfrm.output.trans hr.frm.output, Nat.le_trans hr.frm.size hfrm.size, fun k h1 h2 => ?_⟩
    refine (hblk k (Nat.lt_of_lt_of_le h1 hr.frm.size) ?_).trans (hr.frm.block k h1 h2)
    rintro ⟨i0, o0, l0, h3, h4, h5⟩
    rcases (hr.heap.lt _ l0 k h4 h5).2 with h6 | h6
    · have h6' : K.w0.heap.size ≤ k := h6
      omega
    · exact h2 h6
  · rw [hsit] at hv
    have hsafe : ∀ b c, Sit.Safe ⟨(sit K σ st w).Safe, (sit K σ st w).w.heap.size, capS hp ρ σ, σ', AL.get hp, w'⟩ b c → (sit K σ st w').Safe b c := by
      intro b c hs
      rcases hs.1 with h1 | h1
      · exact h1
      · refine ⟨.inr (Nat.le_trans hbase h1), fun id l hl hb => ?_⟩
        have := (hr.heap.lt id l b hl hb).1
        have h1' : w.heap.size ≤ b := h1
        have h2' : b < w.heap.size := this
        omega
    have := RelRR.mono (Z' := (sit K σ st w').Safe) (w' := w') (fun b c u hs hc => ⟨hsafe b c hs, hc⟩) (rr_avRR.1 hv)
    exact avRR_rel this
/-- All that the objects, and the arguments, name is there. -/
def shutS (hp : List (Nat × Obj')) (nx : Nat) (avs : List AV) : Bool :=
  (hp.all fun p => isBM p.2 && decide (p.1 < nx) && (refsO p.2).all fun i => (AL.get hp i).isSome) && avs.all fun av => (refsV av).all fun i => (AL.get hp i).isSome
theorem lift_to (hr : Rel K σ st a w) {avs0 : List AV} {nx : Nat} (hsh : shutS hp nx avs0 = true) (hO : ∀ p ∈ hp, AL.get st.hp (ρ p.1) = some (renO ρ p.2)) (hinj : ∀ p ∈ hp, ∀ q ∈ hp, ρ p.1 = ρ q.1 → p.1 = q.1)
    {us : Array Value} (hus : RelVs (sit K σ st w) (avs0.map (renV ρ)) us) (pan : List PanicEntry → St → Prop) :
    ∃ a0 : Act, (∀ id o, AL.get hp id = some o → ∀ l, σ (ρ id) = some l → a0.tmps.getD id undef = l) ∧
      Rel ⟨K.P, (sit K σ st w).Safe, w, capS hp ρ σ, nx, none, pan, none, [], false⟩ (sigS hp ρ σ) ⟨pins hp, hp, nx⟩ a0 w ∧ RelVs (sit ⟨K.P, (sit K σ st w).Safe, w, capS hp ρ σ, nx, none, pan, none, [], false⟩ (sigS hp ρ σ) ⟨pins hp, hp, nx⟩ w) avs0 us := by
  unfold shutS at hsh
  simp only [Bool.and_eq_true, List.all_eq_true, decide_eq_true_eq] at hsh
  obtain ⟨h1, h2⟩ := hsh
  have hth : ∀ {l : List Nat}, (∀ i ∈ l, (AL.get hp i).isSome = true) → There (AL.get hp) l := fun h i hi => Option.isSome_iff_exists.1 (h i hi)
  have hk : ∀ id o, AL.get hp id = some o → isBM o = true := fun id o ho => (h1 _ (al_mem ho)).1.1
  have hO' : ∀ id o, AL.get hp id = some o → (sit K σ st w).h (ρ id) = some (renO ρ o) := fun id o ho => hO _ (al_mem ho)
  let a0 : Act := { tmps := ((List.range nx).map fun i => (σ (ρ i)).getD undef).toArray, defers := [] }
  have ha0 : ∀ id o, AL.get hp id = some o → ∀ l, σ (ρ id) = some l → a0.tmps.getD id undef = l := by
    intro id o ho l hl
    have := (h1 _ (al_mem ho)).1.2
    simp only at this
    simp [a0, Array.getD, this, hl]
  have hsit : sit ⟨K.P, (sit K σ st w).Safe, w, capS hp ρ σ, nx, none, pan, none, [], false⟩ (sigS hp ρ σ) ⟨pins hp, hp, nx⟩ w = ⟨(sit K σ st w).Safe, w.heap.size, capS hp ρ (sit K σ st w).σ, sigS hp ρ (sit K σ st w).σ, AL.get hp, w⟩ := rfl
  refine ⟨a0, ha0, ⟨⟨fun id o ho => ?_, fun id l hl => ?_, fun i i' l l' b hi hi' hb hb' => ?_, fun id l b hl hb => ?_⟩, fun t av ht => ?_, fun id o ho => (h1 _ (al_mem ho)).1.2, ⟨[], rfl, List.nodup_nil, fun D hD => (by cases hD), fun D hD => (by cases hD), fun _ => rfl⟩, by simp [a0], ⟨rfl, rfl, rfl, Nat.le_refl _, fun _ _ _ => rfl⟩⟩, ?_⟩
  · rw [hsit]
    have ho' : AL.get hp id = some o := ho
    have hb := hk id o ho'
    have h3 := hr.heap.objs (ρ id) _ (hO' id o ho')
    cases o with
    | box cs =>
      obtain ⟨blk, vs, ty, g1, g2, g3⟩ := h3
      refine ⟨blk, vs, ty, by show sigS hp ρ σ id = _; rw [sigS_at ho']; exact g1, g2, ?_⟩
      exact down_Cs (s := sit K σ st w) rfl hk hO' (hth ((h1 _ (al_mem ho')).2)) g3
    | memo P k I =>
      obtain ⟨b, g1, g2⟩ := h3
      exact ⟨b, by show sigS hp ρ σ id = _; rw [sigS_at ho']; exact g1, g2⟩
    | _ => cases hb
  · obtain ⟨o, ho, _⟩ := sigS_some (ρ := ρ) hl
    exact ⟨o, ho⟩
  · obtain ⟨o, ho, hs⟩ := sigS_some (ρ := ρ) hi
    obtain ⟨o', ho', hs'⟩ := sigS_some (ρ := ρ) hi'
    exact hinj _ (al_mem ho) _ (al_mem ho') (hr.heap.inj _ _ l l' b hs hs' hb hb')
  · obtain ⟨o, ho, hs⟩ := sigS_some (ρ := ρ) hl
    exact ⟨(hr.heap.lt _ l b hs hb).1, .inr ⟨id, o, l, ho, hs, hb⟩⟩
  · rw [hsit]
    have ht' : AL.get (pins hp) t = some av := ht
    rw [pins_get] at ht'
    obtain ⟨o, ho, rfl⟩ := Option.map_eq_some_iff.1 ht'
    have hlt := (h1 _ (al_mem ho)).1.2
    refine ⟨by simpa [a0] using hlt, ?_⟩
    have hb := hk t o ho
    have h3 := hr.heap.objs (ρ t) _ (hO' t o ho)
    cases o with
    | box cs =>
      obtain ⟨blk, vs, ty, g1, _⟩ := h3
      have g1' : σ (ρ t) = some (.pointer (some ⟨blk, 0, none⟩)) := g1
      refine ⟨cs, blk, ho, by show sigS hp ρ σ t = _; rw [sigS_at ho]; exact g1', ?_⟩
      exact ha0 t _ ho _ g1'
    | memo P k I =>
      obtain ⟨b, g1, _⟩ := h3
      have g1' : σ (ρ t) = some (.map (some b)) := g1
      exact ⟨P, k, I, b, ho, by show sigS hp ρ σ t = _; rw [sigS_at ho]; exact g1', ha0 t _ ho _ g1'⟩
    | _ => cases hb
  · rw [hsit]
    refine ⟨by simpa using hus.1, fun j av hj => ?_⟩
    obtain ⟨x, hx, hrx⟩ := hus.2 j (renV ρ av) (by rw [List.getElem?_map, hj]; rfl)
    exact ⟨x, hx, down_V (s := sit K σ st w) rfl hk hO' (hth (h2 av (List.mem_of_getElem? hj))) hrx⟩
end

/-- A contract of the small state, in a great one. -/
theorem callF_lift {st : St} {fid : FuncId} {avs : List AV} {avs0 : List AV} {hp : List (Nat × Obj')} {nx : Nat} {r : RR} (ids : List Nat) (hS : FunS K.P fid avs0 hp nx r) (hsh : shutS hp nx avs0 = true)
    (hO : ∀ p ∈ hp, AL.get st.hp (ids.getD p.1 0) = some (renO (fun i => ids.getD i 0) p.2)) (hinj : ∀ p ∈ hp, ∀ q ∈ hp, ids.getD p.1 0 = ids.getD q.1 0 → p.1 = q.1) (ha : avs = avs0.map (renV fun i => ids.getD i 0)) :
    CallF K fid avs st fun st' av => st' = st ∧ av = avRR r := by
  subst ha
  intro σ a w us hr hus
  obtain ⟨a0, ha0, hr0, hus0⟩ := lift_to hr (ρ := fun i => ids.getD i 0) hsh hO hinj hus noPan
  have hk : ∀ id o, AL.get hp id = some o → isBM o = true := fun id o ho => by
    unfold shutS at hsh
    simp only [Bool.and_eq_true, List.all_eq_true, decide_eq_true_eq] at hsh
    exact (hsh.1 _ (al_mem ho)).1.1
  refine (hS _ _ _ _ _ _ _ _ _ hr0 hus0).mono fun e w' he => ?_
  rcases he with ⟨u, he, σ', st', av, h1, h2, rfl, rfl⟩ | ⟨ps, he, σ', st', h1, h2⟩
  · obtain ⟨q1, q2⟩ := lift_back hr hk (fun id o ho => hO _ (al_mem ho)) (K0 := ⟨K.P, (sit K σ st w).Safe, w, capS hp (fun i => ids.getD i 0) σ, nx, none, noPan, none, [], false⟩) rfl rfl rfl ha0 h1
    exact .inl ⟨u, he, σ, st, _, q1, q2 r u h2, rfl, rfl⟩
  · exact h2.elim
/-- The objects of the small state, where they lie in the great one. -/
def objsAt (h : Nat → Option Obj') (ids : List Nat) : List (Nat × Obj') → Prop
  | [] => True
  | (i, o) :: r => h (ids.getD i 0) = some (renO (fun i => ids.getD i 0) o) ∧ objsAt h ids r
theorem objsAt_mem {h : Nat → Option Obj'} {ids : List Nat} : ∀ {hp : List (Nat × Obj')}, objsAt h ids hp → ∀ p ∈ hp, h (ids.getD p.1 0) = some (renO (fun i => ids.getD i 0) p.2)
  | [], _, p, hp => by cases hp
  | (i, o) :: r, ho, p, hp => by
    rcases List.mem_cons.1 hp with rfl | hp
    · exact ho.1
    · exact objsAt_mem ho.2 p hp
theorem ids_inj {ids : List Nat} (hnd : ids.Nodup) {i j : Nat} (hi : i < ids.length) (hj : j < ids.length) (h : ids.getD i 0 = ids.getD j 0) : i = j := by
  rw [List.getD_eq_getElem?_getD, List.getD_eq_getElem?_getD, List.getElem?_eq_getElem hi, List.getElem?_eq_getElem hj] at h
  rw [List.nodup_iff_pairwise_ne] at hnd
  rcases Nat.lt_trichotomy i j with hl | hl | hl
  · exact absurd (Option.some.inj (by simpa using h)) ((List.pairwise_iff_getElem.1 hnd) i j hi hj hl)
  · exact hl
  · exact absurd (Option.some.inj (by simpa using h)).symm ((List.pairwise_iff_getElem.1 hnd) j i hj hi hl)
theorem shutS_lt {hp : List (Nat × Obj')} {nx : Nat} {avs : List AV} (h : shutS hp nx avs = true) : ∀ p ∈ hp, p.1 < nx := by
  unfold shutS at h
  simp only [Bool.and_eq_true, List.all_eq_true, decide_eq_true_eq] at h
  exact fun p hp => (h.1 p hp).1.2

section
variable {st : St} {fid : FuncId} {avs avs0 : List AV} {hp : List (Nat × Obj')} {nx : Nat} {r : RR} {v : Value}
theorem callF_S (ids : List Nat) (hS : FunS K.P fid avs0 hp nx r) (hsh : shutS hp nx avs0 = true) (hO : objsAt (AL.get st.hp) ids hp) (hnd : ids.Nodup) (hlen : nx ≤ ids.length) (ha : avs = avs0.map (renV fun i => ids.getD i 0)) :
    CallF K fid avs st fun st' av => st' = st ∧ av = avRR r :=
  callF_lift ids hS hsh (objsAt_mem hO) (fun p hp q hq h => ids_inj hnd (Nat.lt_of_lt_of_le (shutS_lt hsh p hp) hlen) (Nat.lt_of_lt_of_le (shutS_lt hsh q hq) hlen) h) ha
end

theorem refs_avRR (r : RR) : refsV (avRR r) = [] := by
  cases r with
  | one r =>
    cases r with
    | one x => rfl
    | agg cs =>
      show (cs.map AC.p).flatMap refsC = []
      rw [List.flatMap_eq_nil_iff]
      intro c hc
      obtain ⟨x, _, rfl⟩ := List.mem_map.1 hc
      rfl
  | tup rs => rfl
/-- The contract of the small state, walked. -/
theorem funS_ok {P : Program} {f : FuncId} {avs : List AV} {hp : List (Nat × Obj')} {nx : Nat} {r : RR} {fn : Func} {c : Code} {nt : Nat} {rs : List ResultVar} (hf : P.funcs[f]? = some fn) (hb : fn.body = some c) (hnt : fn.ntmps = nt) (hrs : fn.results.toList = rs) (hn : avs.length ≤ nt)
    (h : ∀ Z w0 cap pan dk tm, AW ⟨P, Z, w0, cap, nt, none, pan, none, dk, true⟩ c (fun e st' => (e = .normal ∨ e = .ret) ∧ resV P st' rs = some (avRR r) ∧ AL.get st'.hp nx = some (.kept (pins hp) tm) ∧ ∀ p ∈ hp, AL.get st'.hp p.1 = some p.2)
      ⟨initV 0 avs, (nx, .kept (pins hp) tm) :: hp, nx + 1⟩) : FunS P f avs hp nx r := by
  intro Z w0 cap nt0 pan
  refine callF_to hf hb hnt hrs hn fun hcl tm Ds => ?_
  refine (h Z w0 cap _ (Ds ++ []) tm).mono fun e st' hq => ?_
  obtain ⟨h1, h2, h3, h4⟩ := hq
  exact ⟨h1, _, h2, h3, ⟨pins hp, hp, nx⟩, rfl, hcl, fun id o ho => h4 _ (al_mem ho), by rw [refs_avRR]; exact fun i hi => (by cases hi), rfl, rfl⟩
/- Calls, by contracts of the small state. -/
section
variable {l : List Oper} {rest : List Oper} {ops : Array Oper} {st : St} {o : Oper} {Q : St → Prop} {recs : List Rec} {f : Operand} {args : Array Operand} {argTypes : Array TypeId} {fid : FuncId} {caps : List CC} {avs avs0 : List AV} {hp : List (Nat × Obj')} {nx : Nat} {r : RR} {v : Value} {fn : Func}
theorem callO_S (ids : List Nat) (hS : FunS K.P fid avs0 hp nx r) (hd : dstOK K o.dst = true) (ho : o.op = .call { callee := .value f, args := args, argTypes := argTypes }) (h1 : (evalA (AL.get st.fr) f).bind fnA = some (fid, caps)) (h2 : mapO (evalA (AL.get st.fr)) args.toList = some avs)
    (h5 : K.P.funcs[fid]? = some fn) (h6 : fn.body.isSome = true) (h7 : fn.name ≠ "runtime.NumGoroutine") (hsh : shutS hp nx avs0 = true) (hO : objsAt (AL.get st.hp) ids hp) (hnd : ids.Nodup) (hlen : nx ≤ ids.length) (ha : avs ++ caps.map capV = avs0.map (renV fun i => ids.getD i 0))
    (h : evOps K ops rest (st.put o.dst (avRR r)) Q) : CallO K ops o rest st Q :=
  callS_ok hd ho fid h1 h2 h5 h6 h7 ((callF_S ids hS hsh hO hnd hlen ha).mono fun _ _ he => by obtain ⟨rfl, rfl⟩ := he; exact h)
theorem evalA_keep {fr : List (Nat × AV)} (hk : ∀ t, keepT l o t = true → AL.get fr t = AL.get st.fr t) {x : Operand} (hx : x ∈ o.op.operands.toList) : evalA (AL.get fr) x = evalA (AL.get st.fr) x := by
  cases x with
  | tmp t =>
    simp only [evalA]
    refine hk t ?_
    unfold keepT
    simp only [Bool.or_eq_true, List.contains_eq_mem, decide_eq_true_eq]
    exact .inl (mem_looks hx)
  | _ => rfl
theorem callee_keep {fr : List (Nat × AV)} (hk : ∀ t, keepT l o t = true → AL.get fr t = AL.get st.fr t) (ho : o.op = .call { callee := .value f, args := args, argTypes := argTypes }) (h1 : (evalA (AL.get st.fr) f).bind fnA = some (fid, caps)) (h2 : mapO (evalA (AL.get st.fr)) args.toList = some avs) :
    (evalA (AL.get fr) f).bind fnA = some (fid, caps) ∧ mapO (evalA (AL.get fr)) args.toList = some avs := by
  refine ⟨by rw [evalA_keep hk (by simp [ho, Op.operands, Call.operands])]; exact h1, ?_⟩
  rw [← h2, ← mapM_eq, ← mapM_eq]
  exact mapM_local fun x hx => evalA_keep hk (by simp only [ho, Op.operands, Call.operands, Array.toList_append, List.mem_append]; exact .inr hx)

/-- A call in a region that draws its order: a contract for all frames. -/
theorem turns_of (ch : List Nat) (av : AV) (hp2 : List (Nat × Obj')) (nx2 : Nat) (hd : dstOK K o.dst = true) (ho : o.op = .call { callee := .value f, args := args, argTypes := argTypes }) (h1 : (evalA (AL.get st.fr) f).bind fnA = some (fid, caps)) (h2 : mapO (evalA (AL.get st.fr)) args.toList = some avs)
    (h5 : K.P.funcs[fid]? = some fn) (h6 : fn.body.isSome = true) (h7 : fn.name ≠ "runtime.NumGoroutine") (hc : ∀ id, id ∉ ch → AL.get hp2 id = AL.get st.hp id) (hn : st.nx ≤ nx2) (hlt : ∀ id ∈ ch, id < nx2)
    (h : ∀ fr, (∀ t, keepT l o t = true → AL.get fr t = AL.get st.fr t) → CallF K fid (avs ++ caps.map capV) ⟨fr, st.hp, st.nx⟩ fun st' av' => st' = ⟨fr, hp2, nx2⟩ ∧ av' = av) : TurnsA K l st o ch av hp2 nx2 := by
  refine ⟨hc, hn, hlt, fun fr hk => ?_⟩
  obtain ⟨g1, g2⟩ := callee_keep hk ho h1 h2
  exact callS_of hd ho fid g1 g2 h5 h6 h7 ((h fr hk).mono fun _ _ he => by obtain ⟨rfl, rfl⟩ := he; rfl)
end
end Go.Pv
/- A deferred function that recovers, and hands on what it has recovered to a function. Seat-independent. -/
namespace Go.Pv
open Go Go.RowKit Go.Sh

theorem wpSIn_recover {F : Fence} {n : Nat} {P : Program} {Q : Exit → Act → List Frame → World → Prop} {a : Act} {cs cs' : List Frame} {w : World} {id : Nat} {ops : Array Oper} {o : Oper} {rest : List Nat} {v : Value}
    (hF0 : F.round = none) (ho : ops[0]? = some o) (hl : List.range ops.size = 0 :: rest) (hw : Region.wanted o (yielded ops a.tmps) = true) (habout : ∀ f, o.about P w a.eval = some f → F.fn f) (hr : (execOp a.eval o).run P w = .ok .recover w)
    (hrec : recoverD cs = some (v, cs') ∨ (recoverD cs = none ∧ v = .nilIface ∧ cs' = cs)) (h : wpOpsIn F n P ops (fun e a' w' => Q e a' cs' w') rest (a.put o.dst v) w) : (Code.region id ops false).wpSIn F n P Q a cs w := by
  intro b k hb hro hF hroom
  have h0 : (lone (b.atR a (.inRegion ops (0 :: rest) :: k)) cs w).fenced P F := fenced_oper hF hroom ho habout
  have hg := stepGR_op (P := P) (b := b) (k := k) (cs := cs) (w := w) (rest := rest) ho hw
  rw [hro, Oper.semAt_none] at hg
  have hfin : ∀ v, (b.atR a (.inRegion ops (0 :: rest) :: k)).finish v = b.atR (a.put o.dst v) (.inRegion ops rest :: k) := by
    intro v; rw [Frame.finish_atR, ho]; rfl
  have hk : (b.atR a (.inRegion ops (0 :: rest) :: k)).kind = .deferred := hb
  have htr := tryRecover_deferred hk cs
  have hlen : cs'.length = cs.length := by
    rcases hrec with hrec | ⟨_, _, rfl⟩
    · exact recoverD_length hrec
    · rfl
  obtain ⟨e, a', w', hq, harr⟩ := wp_opsIn rest _ _ h b k cs' (hro.trans hF0.symm) hF (hlen ▸ hroom)
  refine ⟨e, a', cs', w', hlen, hq, .of_steps (.one (fenced_calm hF hroom rfl) stepR_region) ?_⟩
  rw [hl]
  refine .of_steps (.one h0 (step_lone_go ?_)) harr
  rw [hg, ← hfin]
  simp only [Frame.atR, hro] at htr ⊢
  rcases hrec with hrec | ⟨hrec, rfl, rfl⟩
  · simp [stepG.apply, hr, htr, hrec]
  · simp [stepG.apply, hr, htr, hrec]

/-- The deferred function: recover, then a call of the function that turns what was recovered into an error. -/
theorem answers_of {P : Program} {fid g : FuncId} {fn gn : Func} {o1 o2 : Oper} {id : Nat} {pv : Int → Value} {argTypes argTypes2 : Array TypeId} (hf : P.funcs[fid]? = some fn) (hb : fn.body = some (.region id #[o1, o2] false)) (hnt : fn.ntmps = 3) (hrs : fn.results = #[])
    (h1 : o1.op = .call { callee := .builtin .recover, args := #[], argTypes := argTypes2 }) (h1d : o1.dst = some 1) (h1g : o1.guard = none)
    (h2 : o2.op = .call { callee := .value (.func g), args := #[.tmp 1, .tmp 0], argTypes := argTypes }) (h2d : o2.dst = some 2) (h2g : o2.guard = none)
    (hg : P.funcs[g]? = some gn) (hgb : gn.body.isSome = true) (hgn : gn.name ≠ "runtime.NumGoroutine")
    (hidle : ∀ (p : Addr) (w : World), Calls P g #[.nilIface, .pointer (some p)] w fun e w' => (∃ v, e = .returned v) ∧ Below w.heap.size w w')
    (hstop : ∀ (p : Addr) (x c : Int) (w : World), w.cell? p = some (.int .i64 x) → w.frozen? p = false → Calls P g #[pv c, .pointer (some p)] w fun e w' => (∃ v, e = .returned v) ∧ ∃ w1, Below w.heap.size w w1 ∧ w' = w1.setCell p (.int .i64 c)) : AnswersOK P fid pv := by
  have key : ∀ (p : Addr) (u u' : FrameMode) (v : Value) (w : World) (R : World → Prop), (∀ (c₀ : Frame) (cs : List Frame), c₀.mode = u → ∃ c₁ : Frame, c₁ = { c₀ with mode := u' } ∧ (recoverD (c₀ :: cs) = some (v, c₁ :: cs) ∨ (recoverD (c₀ :: cs) = none ∧ v = .nilIface ∧ c₁ :: cs = c₀ :: cs))) →
      (Calls P g #[v, .pointer (some p)] w fun e w' => (∃ v, e = .returned v) ∧ R w') → CallsDIn Fence.wide 0 P fid #[.pointer (some p)] u w fun e u'' w' => e = .returned (.tuple #[]) ∧ u'' = u' ∧ R w' := by
    intro p u u' v w R hrec hcall
    refine callsDIn_of_wpSIn hf hb trivial fun c₀ cs hu => ?_
    obtain ⟨c₁, hc₁, hrec⟩ := hrec c₀ cs hu
    rw [hnt]
    refine wpSIn_recover (o := o1) (rest := [1]) rfl rfl rfl (by simp [Region.wanted, h1g]) (fun _ _ => trivial) (v := v) (cs' := c₁ :: cs) (by simp [execOp, h1, resolve, invoke, builtin]) hrec ?_
    simp only [wpOpsIn]
    rw [show (#[o1, o2] : Array Oper)[1]? = some o2 from rfl]
    simp only
    rw [if_pos (by simp [Region.wanted, h2g])]
    rw [h1d]
    unfold Oper.wpIn
    refine ⟨fun _ _ => trivial, ?_⟩
    have hev : (execOp (Act.put { tmps := #[.pointer (some p)] ++ Array.replicate (3 - (#[.pointer (some p)] : Array Value).size) undef, defers := [] } (some 1) v).eval o2).run P w = .ok (.enter g #[v, .pointer (some p)]) w := by
      have : (Act.put { tmps := #[.pointer (some p)] ++ Array.replicate (3 - (#[.pointer (some p)] : Array Value).size) undef, defers := [] } (some 1) v).tmps = #[.pointer (some p), v, undef] := rfl
      have e1 : (Act.put { tmps := #[.pointer (some p)] ++ Array.replicate (3 - (#[.pointer (some p)] : Array Value).size) undef, defers := [] } (some 1) v).eval (.tmp 1) = v := rfl
      have e0 : (Act.put { tmps := #[.pointer (some p)] ++ Array.replicate (3 - (#[.pointer (some p)] : Array Value).size) undef, defers := [] } (some 1) v).eval (.tmp 0) = .pointer (some p) := rfl
      have eg : (Act.put { tmps := #[.pointer (some p)] ++ Array.replicate (3 - (#[.pointer (some p)] : Array Value).size) undef, defers := [] } (some 1) v).eval (.func g) = .func (.func g) #[] #[] := rfl
      simp only [execOp, h2, resolve, eg, Sem.run_bind, Deferred.ofValue, List.map_toArray, List.map_cons, List.map_nil, e0, e1, Sem.run_pure, Result.andThen_ok, invoke]
      simp [run_callFunc hg hgb hgn]
    rw [show Fence.wide.round = none from rfl, Oper.semAt_none, hev, Oper.uponIn_enter]
    refine ⟨(fun h => by cases h), callsIn_wide.2 (hcall.mono fun e w' he => ?_)⟩
    obtain ⟨⟨v', rfl⟩, hR⟩ := he
    refine ⟨by rw [h2d]; rfl, u', by rw [hc₁], _, results_none hrs _ _ _, rfl, rfl, hR⟩
  refine ⟨fun p w => ?_, fun p x c w hc hz => ?_⟩
  · refine key p .returning .returning .nilIface w _ (fun c₀ cs hu => ⟨c₀, by cases c₀; simp_all, .inr ⟨by simp [recoverD, hu], rfl, rfl⟩⟩) (hidle p w)
  · refine key p _ _ (pv c) w _ (fun c₀ cs hu => ⟨{ c₀ with mode := .panicking [{ v := pv c, recovered := true }] }, rfl, .inl (by simp [recoverD, hu])⟩) (hstop p x c w hc hz)
end Go.Pv
/- Scopes without jumps; yields that leave the caller's objects as T has them. Seat-independent. -/
namespace Go.Pv
open Go Go.RowKit Go.Sh
variable {K : Kx}

/-- No jump to a label. -/
def noG (Q : Exit → St → Prop) : Exit → St → Prop
  | .goto _, _ => False
  | e, st => Q e st
theorem nog_n {Q : Exit → St → Prop} {st : St} (h : Q .normal st) : noG Q .normal st := h
theorem nog_r {Q : Exit → St → Prop} {st : St} (h : Q .ret st) : noG Q .ret st := h
theorem aw_scope {c : Code} {Q : Exit → St → Prop} {st : St} (hrd : K.rd = none) (h : AW K c (noG Q) st) : AW K (.scope c) Q st := by
  intro σ a w hr
  have hF : K.F = Fence.wide := by unfold Kx.F; rw [hrd]; rfl
  have h1 := h σ a w hr
  rw [hF] at h1 ⊢
  refine wpIn_wide.2 (wp_scope_straight (Go.wp_mono (wpIn_wide.1 h1) fun e a' w' hp => ?_))
  rcases hp with ⟨σ', st', h1, h2⟩ | ⟨ps, rfl, hp⟩
  · cases e <;> first
      | exact .inl ⟨σ', st', h1, h2⟩
      | exact h1.elim
  · exact .inr ⟨ps, rfl, hp⟩

theorem Closed.put {st : St} (h : Closed st) (d : Option Tmp) {av : AV} (hr : There (AL.get st.hp) (refsV av)) : Closed (st.put d av) := by
  cases d with
  | none => exact h
  | some d =>
    refine ⟨h.lt, fun t x ht => ?_, h.obj, h.kept⟩
    have ht : AL.get (AL.set st.fr d av) t = some x := ht
    rw [AL.get_set] at ht
    split at ht
    · cases ht; exact hr
    · exact h.fr t x ht

/-- A memory that takes an entry, in a region that draws. -/
theorem turns_update {l : List Oper} {st : St} {o : Oper} {T k e : TypeId} {m kx vx : Operand} (hd : dstOK K o.dst = true) (ho : o.op = .mapUpdate T m kx vx) (KL : WideMaps.KeyLaw K.P k) (ht : K.P.underlying T = some (.map k e)) {id : Nat} {I : MI} (I' : MI)
    (h1 : evalA (AL.get st.fr) m = some (.one (.memo id))) (h2 : AL.get st.hp id = some (.memo K.P k I)) {kv vv : Value} {lt : Lit} (h3 : plain1 (AL.get st.fr) kx = some kv) (h4 : plain1 (AL.get st.fr) vx = some vv) (hk : keyOf K.P k kv = some lt) (hI : I'.yes kv vv) (hy : ∀ a b, a ≠ kv → I.yes a b → I'.yes a b) (ha : ∀ a b, I'.all a b → (a = kv ∧ b = vv) ∨ (a ≠ kv ∧ I.all a b)) (hid : id < st.nx) :
    TurnsA K l st o [id] .und (AL.set st.hp id (.memo K.P k I')) st.nx := by
  refine ⟨fun i hi => by rw [AL.get_set, if_neg (by simpa using hi)], Nat.le_refl _, fun i h => (by simp at h; subst h; exact hid), fun fr hkp => callS_update hd ho KL ht I' (id := id) (st := ⟨fr, st.hp, st.nx⟩) ?_ h2 ?_ ?_ hk hI hy ha (by simp [St.upd, hid])⟩
  · show evalA (AL.get fr) m = _
    rw [evalA_keep hkp (by simp [ho, Op.operands])]; exact h1
  · show plain1 (AL.get fr) kx = _
    unfold plain1 at h3 ⊢
    rw [evalA_keep hkp (by simp [ho, Op.operands])]; exact h3
  · show plain1 (AL.get fr) vx = _
    unfold plain1 at h4 ⊢
    rw [evalA_keep hkp (by simp [ho, Op.operands])]; exact h4

/-- One object more. -/
theorem Closed.new {st : St} (h : Closed st) {id nx' : Nat} {o : Obj'} (hid : st.nx ≤ id) (hn : id < nx') (hk : ∀ fr tm, o ≠ .kept fr tm) (hr : There (AL.get st.hp) (refsO o)) : Closed ⟨st.fr, (id, o) :: st.hp, nx'⟩ := by
  have hd : ∀ {l : List Nat}, There (AL.get st.hp) l → There (AL.get ((id, o) :: st.hp)) l := by
    intro l hl i hi
    obtain ⟨x, hx⟩ := hl i hi
    rw [show AL.get ((id, o) :: st.hp) i = if i = id then some o else AL.get st.hp i from rfl]
    split
    · exact ⟨_, rfl⟩
    · exact ⟨x, hx⟩
  have key : ∀ {i : Nat} {x : Obj'}, AL.get ((id, o) :: st.hp) i = some x → (i = id ∧ x = o) ∨ AL.get st.hp i = some x := by
    intro i x hx
    rw [show AL.get ((id, o) :: st.hp) i = if i = id then some o else AL.get st.hp i from rfl] at hx
    split at hx
    · cases hx; exact .inl ⟨by assumption, rfl⟩
    · exact .inr hx
  refine ⟨fun i x hx => ?_, fun t av ht => hd (h.fr t av ht), fun i x hx hk' => ?_, fun i fr tm hx t av ht => ?_⟩
  · rcases key hx with ⟨rfl, _⟩ | hx
    · exact hn
    · exact Nat.lt_trans (Nat.lt_of_lt_of_le (h.lt _ _ hx) hid) hn
  · rcases key hx with ⟨_, rfl⟩ | hx
    · exact hd hr
    · exact hd (h.obj i x hx hk')
  · rcases key hx with ⟨_, rfl⟩ | hx
    · exact absurd rfl (hk fr tm)
    · exact hd (h.kept i fr tm hx t av ht)

section
variable {l : List Oper} {rest : List Oper} {st : St} {o : Oper} {Q : St → Prop} {recs : List Rec} {f : Operand} {args : Array Operand} {argTypes : Array TypeId} {fid : FuncId} {caps : List CC} {avs : List AV} {fn : Func}
theorem callD_F (ch : List Nat) (av : AV) (hp2 : List (Nat × Obj')) (nx2 : Nat) (hd : dstOK K o.dst = true) (ho : o.op = .call { callee := .value f, args := args, argTypes := argTypes }) (h1 : (evalA (AL.get st.fr) f).bind fnA = some (fid, caps)) (h2 : mapO (evalA (AL.get st.fr)) args.toList = some avs)
    (h5 : K.P.funcs[fid]? = some fn) (h6 : fn.body.isSome = true) (h7 : fn.name ≠ "runtime.NumGoroutine") (hc : ∀ id, id ∉ ch → AL.get hp2 id = AL.get st.hp id) (hn : st.nx ≤ nx2) (hlt : ∀ id ∈ ch, id < nx2)
    (hF : ∀ fr, (∀ t, keepT l o t = true → AL.get fr t = AL.get st.fr t) → CallF K fid (avs ++ caps.map capV) ⟨fr, st.hp, st.nx⟩ fun st' av' => st' = ⟨fr, hp2, nx2⟩ ∧ av' = av)
    (h : evDraw K l rest (St.put ⟨st.fr, hp2, nx2⟩ o.dst av) (recs ++ [(none, ch)]) Q) : CallD K l o rest st recs Q :=
  callD_turn hd (by rw [ho]; rfl) ch av hp2 nx2 (turns_of ch av hp2 nx2 hd ho h1 h2 h5 h6 h7 hc hn hlt hF) h
end

/-- All objects, each once; of the slots those that are asked for. -/
def nub : List Nat → List Nat
  | [] => []
  | i :: r => if (nub r).contains i = true then nub r else i :: nub r
def keepA (st : St) (slots : List Nat) : Option St := restrict st (there st.fr slots) (nub (keys st.hp)) st.nx
theorem weak_keepA {st st' : St} (slots : List Nat) (h : keepA st slots = some st') : Weak K st st' := weak_restrict _ _ _ h
end Go.Pv
/- A range over a function in a round of another one. -/
namespace Go.Pv
open Go Go.RowKit Go.Sh
variable {K : Kx}
theorem aw_rangeFuncN {l0 id0 : Nat} {r0 : Loop} {g : Operand} {ps : Array Tmp} {assign body : Code} {Q : Exit → St → Prop} {st : St} (hrd : K.rd = some l0) (hl0 : AL.get st.hp id0 = some (.lp l0 r0)) {gf : FuncId} {caps : List CC} (hg : evalA (AL.get st.fr) g = some (.one (.fn gf caps)))
    {fn : Func} {c : Code} {nt : Nat} (hf : K.P.funcs[gf]? = some fn) (hb : fn.body = some c) (hname : fn.name ≠ "runtime.NumGoroutine") (hnt : fn.ntmps = nt) (hrs : fn.results.toList = []) (hn : caps.length + 1 ≤ nt)
    (h : ∀ (r : Loop) (b : Nat) (tm : Nat → Value) (Ds : List Nat), r.state = .ready → r.pending = none → r.params = ps → r.assign = assign → r.body = body → r.tmps.size = K.nt → tm = (fun t => r.tmps.getD t undef) → (∀ t av, AL.get st.fr t = some av → t < r.tmps.size) →
      AW (K.iter nt st tm Ds) c (fun e st' => (e = .normal ∨ e = .ret) ∧ AL.get st'.hp st.nx = some (.kept st.fr tm) ∧ ∃ r2, AL.get st'.hp (st.nx + 1) = some (.lp b r2) ∧ r2.state ≠ .busy ∧ pendQ Q ⟨st.fr, AL.set st'.hp (st.nx + 1) (.lp b { r2 with state := .exhausted }), st'.nx⟩ r2.pending)
        ⟨initV 0 (.one (.yld (st.nx + 1)) :: caps.map capV), (st.nx + 1, .lp b r) :: (st.nx, .kept st.fr tm) :: st.hp, st.nx + 2⟩) : AW K (.rangeFunc g ps assign body) Q st := by
  subst hnt
  intro σ a w hr
  refine wpIn_rangeFunc fun fn0 _ => ?_
  have hround : K.F.round = some l0 := hrd
  have h0 : w.heap[l0]? = some (.loop r0) := (hr.heap.objs id0 _ hl0).2
  obtain ⟨us, hus, hs0, hcap⟩ := hr.evF g _ hg
  obtain ⟨r, hrec⟩ : ∃ r : Loop, r = { state := .ready, pending := none, fn := fn0, tmps := a.tmps, params := ps, assign, body, defers := r0.defers } := ⟨_, rfl⟩
  obtain ⟨Ds, hDs1, hDs2, hDs3, hDs4, hDs5⟩ := hr.df
  let tm : Nat → Value := fun t => a.tmps.getD t undef
  let fr' := initV 0 (.one (.yld (st.nx + 1)) :: caps.map capV)
  have hk := keep_heap hr fr'
  have hke := keep_ext hr fr' tm
  have hσ1 : σ (st.nx + 1) = none := hr.fresh (Nat.le_succ _)
  obtain ⟨q1, q2⟩ := new_lp (s := sit K σ ⟨fr', (st.nx, .kept st.fr tm) :: st.hp, st.nx + 1⟩ w) hk.1 (id := st.nx + 1) hσ1 hr.frm.size r
  have hsit : sit K (Pv.upd σ (st.nx + 1) (.func (.yield w.heap.size) #[] #[])) ⟨fr', (st.nx + 1, .lp w.heap.size r) :: (st.nx, .kept st.fr tm) :: st.hp, st.nx + 2⟩ (w.alloc (.loop r)) = (sit K σ ⟨fr', (st.nx, .kept st.fr tm) :: st.hp, st.nx + 1⟩ w).put (st.nx + 1) (.lp w.heap.size r) (.func (.yield w.heap.size) #[] #[]) (w.alloc (.loop r)) := by
    unfold sit Sit.put
    simp only
    congr 1
  have hbB : Below w.heap.size w (w.alloc (.loop r)) := (Below.refl _ w).alloc (Nat.le_refl _) _
  have hrB := hr.at hbB
  have hcapB : ∀ (j : Nat) (cc : CC), caps[j]? = some cc → ∃ x, us[j]? = some x ∧ RelCC (sit K σ st w) cc x := by
    intro j cc hj
    obtain ⟨us', hus', _, hcap'⟩ := hr.evF g _ hg
    rw [hus] at hus'; cases hus'
    exact hcap' j cc hj
  have hrel : Rel (K.iter fn.ntmps st tm Ds) (Pv.upd σ (st.nx + 1) (.func (.yield w.heap.size) #[] #[])) ⟨fr', (st.nx + 1, .lp w.heap.size r) :: (st.nx, .kept st.fr tm) :: st.hp, st.nx + 2⟩
      { tmps := (#[.func (.yield w.heap.size) #[] #[]] ++ us) ++ Array.replicate (fn.ntmps - (#[.func (.yield w.heap.size) #[] #[]] ++ us : Array Value).size) undef, defers := [] } (w.alloc (.loop r)) := by
    have hsz : (#[.func (.yield w.heap.size) #[] #[]] ++ us : Array Value).size = caps.length + 1 := by simp [hs0]; omega
    refine ⟨by show Heap0 (sit K _ _ _); rw [hsit]; exact q1, fun t av ht => ?_, fun id o ho => ?_, ⟨[], rfl, List.nodup_nil, fun D hD => (by cases hD), fun D hD => ?_, fun _ => rfl⟩, by simp [Kx.iter]; omega, hrB.frm⟩
    · have ht' : AL.get fr' t = some av := ht
      rw [initV_get] at ht'
      split at ht'
      · rename_i hc
        simp only [Nat.sub_zero] at ht'
        refine ⟨by simp only [Array.size_append, Array.size_replicate] at hsz ⊢; simp only [List.length_cons, List.length_map] at hc; omega, ?_⟩
        show RelV (sit K _ _ _) av _
        rw [hsit]
        rcases t with _ | t
        · simp at ht'; subst ht'
          have : ((#[Value.func (.yield w.heap.size) #[] #[]] ++ us) ++ Array.replicate (fn.ntmps - (#[Value.func (.yield w.heap.size) #[] #[]] ++ us).size) undef).getD 0 undef = .func (.yield w.heap.size) #[] #[] := by
            rw [Array.getD_eq_getD_getElem?, Array.getElem?_append_left (by rw [hsz]; omega), Array.getElem?_append_left (by simp)]; rfl
          rw [this]
          exact ⟨r, w.heap.size, by simp [Sit.put, upd_same], by simp [Sit.put, upd_same], rfl⟩
        · rw [List.getElem?_cons_succ, List.getElem?_map] at ht'
          obtain ⟨cc, hcc, rfl⟩ := Option.map_eq_some_iff.1 ht'
          obtain ⟨x, hx, hrx⟩ := hcapB t cc hcc
          have : ((#[Value.func (.yield w.heap.size) #[] #[]] ++ us) ++ Array.replicate (fn.ntmps - (#[Value.func (.yield w.heap.size) #[] #[]] ++ us).size) undef).getD (t + 1) undef = x := by
            have htl := (Array.getElem?_eq_some_iff.1 hx).1
            rw [Array.getD_eq_getD_getElem?, Array.getElem?_append_left (by simp; omega), Array.getElem?_append_right (by simp)]
            simp [hx]
          rw [this]
          exact capV_rel (q2.relCC (hke.relCC hrx))
      · cases ht'
    · have ho' : AL.get ((st.nx + 1, Obj'.lp w.heap.size r) :: (st.nx, .kept st.fr tm) :: st.hp) id = some o := ho
      by_cases hid : id = st.nx + 1
      · show id < st.nx + 2; omega
      · rw [AL.get_ne _ _ hid] at ho'
        have := hk.2 id o ho'
        show id < st.nx + 2; omega
    · have hold : ∀ D, DfrAt w D → DfrAt (w.alloc (.loop r)) D := dfr_below hbB
      rcases List.mem_append.1 hD with h1 | h1
      · exact hold _ (hDs3 D h1).2.2
      · exact hold _ (hDs4 D h1)
  have hback : ∀ {σ' : Nat → Option Value} {st' : St} {a' : Act} {w' : World}, Rel (K.iter fn.ntmps st tm Ds) σ' st' a' w' → AL.get st'.hp st.nx = some (.kept st.fr tm) → Rel K σ' ⟨st.fr, st'.hp, st'.nx⟩ a w' := by
    intro σ' st' a' w' hr' hkept
    have hk := hr'.heap.objs st.nx _ hkept
    obtain ⟨_, _, _, _, h4, _⟩ := hr'.df
    have h4' : ∀ D, D ∈ Ds ++ K.dk → DfrAt w' D := h4
    exact ⟨hr'.heap, fun t av ht => ⟨(hr.fr t av ht).1, hk.2 t av ht⟩, hr'.lt, ⟨Ds, hDs1, hDs2, fun D hD => ⟨(hDs3 D hD).1, (hDs3 D hD).2.1, h4' D (List.mem_append_left _ hD)⟩, fun D hD => h4' D (List.mem_append_right _ hD), hDs5⟩, hr.nt, hr'.frm⟩
  refine ⟨w.heap.size, [], w.alloc (.loop r), { target := .fn (.func gf) us, args := #[.func (.yield w.heap.size) #[] #[]] }, w.alloc (.loop r), gf, #[.func (.yield w.heap.size) #[] #[]] ++ us, w.alloc (.loop r), ?_, ?_, fun f' _ => trivial, ?_, depth_K, ?_⟩
  · rw [hround, hrec]; exact run_enterLoop_inner h0 _ _ _ _ _
  · simp only [resolve, hus]
    simp [go_sem]
  · simp [invoke, run_callFunc hf (by rw [hb]; rfl) hname]
  · have hh := h r w.heap.size tm Ds (by rw [hrec]) (by rw [hrec]) (by rw [hrec]) (by rw [hrec]) (by rw [hrec]) (by rw [hrec]; exact hr.nt) (by rw [hrec]) (fun t av ht => by rw [hrec]; exact (hr.fr t av ht).1)
    refine callsIn_K (calls_of_aw (K := K.iter fn.ntmps st tm Ds) hf hb rfl rfl hrel hh (fun e st' hq => hq.1) (fun e σ' st' a' w' hq hr' => ?_) (fun ps σ' st' a' w' hp hr' => ?_))
    · obtain ⟨_, hkept, r2, hl, hst, hpq⟩ := hq
      have hres : resV K.P st' fn.results.toList = some (.tup []) := by rw [hrs]; rfl
      obtain ⟨u, hu, _⟩ := resV_run (K := K.iter fn.ntmps st tm Ds) hr' hres
      obtain ⟨hb2, hr3⟩ := (hback hr' hkept).lp { r2 with state := .exhausted } hl
      refine ⟨u, hu, r2.pending, _, run_endLoop hb2 hst, ?_⟩
      have hend : ∀ pe, pendQ Q ⟨st.fr, AL.set st'.hp (st.nx + 1) (.lp w.heap.size { r2 with state := .exhausted }), st'.nx⟩ pe → (match pe with
          | none => postA K Q .normal a (w'.putObj w.heap.size (.loop { r2 with state := .exhausted }))
          | some c => c.wpIn K.F 0 K.P (postA K Q) a (w'.putObj w.heap.size (.loop { r2 with state := .exhausted }))) := by
        intro pe hpe
        cases pe with
        | none => exact .inl ⟨σ', _, hpe, hr3⟩
        | some cd =>
          cases cd with
          | ret => exact wpIn_ret (.inl ⟨σ', _, hpe, hr3⟩)
          | exit i => exact wpIn_exit (.inl ⟨σ', _, hpe, hr3⟩)
          | _ => exact hpe.elim
      exact hend _ hpq
    · exact .inr ⟨ps, rfl, σ', _, hback hr' hp.1, hp.2⟩
end Go.Pv
/- A call of a function of data that panics, in a region that draws its order. -/
namespace Go.Pv
open Go Go.RowKit Go.Sh
variable {K : Kx}
theorem callD_X {l : List Oper} {o : Oper} {r : List Oper} {st : St} {recs : List Rec} {Q : St → Prop} {f : Operand} {args : Array Operand} {argTypes : Array TypeId} (hd : dstOK K o.dst = true) (ho : o.op = .call { callee := .value f, args := args, argTypes := argTypes }) (fid : FuncId) {rvs : List RV} {v : Value}
    (h1 : (evalA (AL.get st.fr) f).bind fnA = some (fid, [])) (h2 : (args.toList.mapM (arg1 (AL.get st.fr) (AL.get st.hp) true)) = some rvs) {fn : Func} (h5 : K.P.funcs[fid]? = some fn) (h6 : fn.body.isSome = true) (h7 : fn.name ≠ "runtime.NumGoroutine") (hf : FunX K.P fid rvs v)
    (hp : ∀ fr, (∀ t, keepD l recs.length o t = true → AL.get fr t = AL.get st.fr t) → K.pan [{ v, recovered := false }] ⟨fr, st.hp, st.nx⟩) (h : evDead K l recs.length r st (recs ++ [(none, [])])) : CallD K l o r st recs Q :=
  callD_pan hd (by rw [ho]; rfl) (fun fr hk => callS_x ho fid ⟨by rw [evalA_keep (fun t h => hk t (keepD_of h)) (by simp [ho, Op.operands, Call.operands])]; exact h1, by
    rw [← h2]
    exact mapM_local fun x hx => by
      unfold arg1
      rw [evalA_keep (fun t h => hk t (keepD_of h)) (by simp only [ho, Op.operands, Call.operands, Array.toList_append, List.mem_append]; exact .inr hx)]⟩ h5 h6 h7 hf (hp fr hk)) h
/-- A method behind an interface value that holds the address of a box: a call in a state. -/
theorem callS_invokeF {st : St} {o : Oper} {Q : St → Prop} {recv : Operand} {name : String} {args : Array Operand} {argTypes : Array TypeId} (hd : dstOK K o.dst = true) (ho : o.op = .call { callee := .invoke recv name, args := args, argTypes := argTypes })
    {T : TypeId} {b : Nat} (h1 : evalA (AL.get st.fr) recv = some (.one (.ifc T b))) (fid : FuncId) (hm : ∀ blk w, (method (K.P.types.size + Made.depth) T (.pointer (some ⟨blk, 0, none⟩)) name).run K.P w = .ok (fid, .pointer (some ⟨blk, 0, none⟩)) w)
    {avs : List AV} (h2 : mapO (evalA (AL.get st.fr)) args.toList = some avs)
    {fn : Func} (h5 : K.P.funcs[fid]? = some fn) (h6 : fn.body.isSome = true) (h7 : fn.name ≠ "runtime.NumGoroutine") (h : CallF K fid (.one (.box b 0) :: avs) st fun st' av => Q (st'.put o.dst av)) : CallS K st o Q := by
  intro σ a w hr
  obtain ⟨cs, blk, g1, g2, hv⟩ := hr.evF recv _ h1
  rw [← mapM_eq] at h2
  obtain ⟨hl, ha⟩ := mapM_get h2
  have hrun : (execOp a.eval o).run K.P w = .ok (.enter fid (#[.pointer (some ⟨blk, 0, none⟩)] ++ args.map a.eval)) w := by
    have hx : (#[a.eval recv] ++ args.map a.eval).extract 1 (#[a.eval recv] ++ args.map a.eval).size = args.map a.eval := by
      generalize args.map a.eval = ys
      rcases ys with ⟨l⟩
      simp
    have hme : (callMethod (.iface T (.pointer (some ⟨blk, 0, none⟩))) name (args.map a.eval)).run K.P w = .ok (.enter fid (#[.pointer (some ⟨blk, 0, none⟩)] ++ args.map a.eval)) w := by
      have hprog : ∀ {β : Type} (f : Program → Sem β), (program >>= f).run K.P w = (f K.P).run K.P w := fun f => rfl
      unfold callMethod
      rw [hprog]
      rw [Sem.run_bind, hm blk w]
      simp only [Result.andThen_ok]
      exact run_callFunc h5 h6 h7 _ w
    have h0 : (#[a.eval recv] ++ args.map a.eval)[0]? = some (.iface T (.pointer (some ⟨blk, 0, none⟩))) := by rw [Array.getElem?_append_left (by simp), hv]; rfl
    have hinv : (invoke (.fn (.method name) #[]) (#[a.eval recv] ++ args.map a.eval)).run K.P w = .ok (.enter fid (#[.pointer (some ⟨blk, 0, none⟩)] ++ args.map a.eval)) w := by
      unfold invoke
      simp only [h0, hx]
      exact hme
    simp only [execOp, ho, resolve, Sem.run_bind, Sem.run_pure, Result.andThen_ok]
    exact hinv
  have hl' : args.size = avs.length := by simpa using hl.symm
  refine wpIn_of (by rw [ho]; intro c hc; cases hc) ?_
  rw [hrun, Oper.uponIn_enter]
  refine ⟨depth_K, callsIn_K ((h σ a w _ hr ⟨by simp [hl']; omega, fun j x hj => ?_⟩).mono fun e w' he => ?_)⟩
  · cases j with
    | zero =>
      simp at hj; subst hj
      exact ⟨_, by rw [Array.getElem?_append_left (by simp)]; rfl, cs, blk, g1, g2, rfl⟩
    | succ j =>
      rw [List.getElem?_cons_succ] at hj
      obtain ⟨y, hy, hf⟩ := ha j x hj
      have hy' : args[j]? = some y := by simpa using hy
      refine ⟨a.eval y, ?_, hr.evF y x hf⟩
      rw [Array.getElem?_append_right (by rw [Array.size_singleton]; omega)]
      simp [hy']
  · rcases he with ⟨u, rfl, σ', st', av, h1, h2, h3⟩ | ⟨ps, rfl, σ', st', h1, h2⟩
    · exact ⟨σ', _, h1.put hd h2, h3⟩
    · exact ⟨ps, rfl, σ', st', h1, h2⟩
/-- A state of some objects only. -/
theorem weak_sub {st T : St} (hfr : ∀ t av, AL.get T.fr t = some av → AL.get st.fr t = some av) (hhp : ∀ id o, AL.get T.hp id = some o → AL.get st.hp id = some o) (hc : Closed T) : Weak K st T := fun σ a w hr => by
  obtain ⟨σ', h, _⟩ := rel_sub hr hfr hhp hc.lt hc.fr hc.obj hc.kept
  exact ⟨σ', h⟩
end Go.Pv
/- A box whose cells are data is given up: its address is data from then on. Printed by genPvI.py. -/
namespace Go.Pv
open Go Go.RowKit Go.Sh
variable {K : Kx}
theorem restrict_rel {st st' : St} (slots ids : List Nat) (nx : Nat) (h : restrict st slots ids nx = some st') {σ : Nat → Option Value} {a : Act} {w : World} (hr : Rel K σ st a w) : Rel K (fun i => if i ∈ ids then σ i else none) st' a w ∧ ∀ i, AL.get st'.hp i = if i ∈ ids then (sit K σ st w).h i else none := by
  unfold restrict at h
  simp only [Option.bind_eq_some_iff] at h
  obtain ⟨fr, hfr, hp, hhp, h⟩ := h
  split at h
  · rename_i hc
    obtain ⟨hc1, hc2, hc3⟩ := hc
    cases h
    have hh : ∀ i, AL.get hp i = if i ∈ ids then (sit K σ st w).h i else none := takeAL_get hhp
    have hs : sit K (fun i => if i ∈ ids then σ i else none) ⟨fr, hp, nx⟩ w = (sit K σ st w).sub ids (AL.get hp) := rfl
    refine ⟨⟨⟨fun id o ho => ?_, fun id l hl => ?_, fun i i' l l' b hi hi' hb hb' => ?_, fun i l b hi hb => ?_⟩, fun t av ht => ?_, fun id o ho => ?_, hr.df, hr.nt, hr.frm⟩, hh⟩
    · have ho' : AL.get hp id = some o := ho
      have hmem := takeAL_mem hhp id o ho'
      have hrefs := allRefs_spec (List.all_eq_true.1 hc2 _ hmem)
      rw [hh] at ho'
      split at ho'
      · rename_i hid
        have h0 := hr.heap.objs id o ho'
        rw [hs]
        cases o with
        | box cs =>
          obtain ⟨blk, vs, ty, h1, h2, h3⟩ := h0
          exact ⟨blk, vs, ty, by show (if id ∈ ids then σ id else none) = _; rw [if_pos hid]; exact h1, h2, sub_relCs hh h3 hrefs⟩
        | arr E k rows sh =>
          obtain ⟨val, xs, h1, h2, h3, h4⟩ := h0
          exact ⟨val, xs, by show (if id ∈ ids then σ id else none) = _; rw [if_pos hid]; exact h1, h2, h3, fun i row j c hi hj => let ⟨u, hu, hru⟩ := h4 i row j c hi hj; ⟨u, hu, sub_relP hh hru⟩⟩
        | kept fr' tm =>
          refine ⟨by show (if id ∈ ids then σ id else none) = none; rw [if_pos hid]; exact h0.1, fun t av ht => ?_⟩
          exact sub_relV hh (h0.2 t av ht) fun i hi => hrefs i (List.mem_flatMap.2 ⟨(t, av), AL.get_mem ht, hi⟩)
        | memo P k I =>
          obtain ⟨b, h1, h2⟩ := h0
          exact ⟨b, by show (if id ∈ ids then σ id else none) = _; rw [if_pos hid]; exact h1, h2⟩
        | lp b r =>
          obtain ⟨h1, h2⟩ := h0
          exact ⟨by show (if id ∈ ids then σ id else none) = _; rw [if_pos hid]; exact h1, h2⟩
      · cases ho'
    · simp only [sit] at hl ⊢
      split at hl
      · rename_i hid
        obtain ⟨o, ho⟩ := hr.heap.dom id l hl
        exact ⟨o, by rw [hh, if_pos hid]; exact ho⟩
      · cases hl
    · simp only [sit] at hi hi'
      split at hi
      · split at hi'
        · exact hr.heap.inj i i' l l' b hi hi' hb hb'
        · cases hi'
      · cases hi
    · simp only [sit] at hi
      split at hi
      · exact hr.heap.lt i l b hi hb
      · cases hi
    · have hmem := takeAL_mem hfr t av ht
      have hrefs := allRefs_spec (List.all_eq_true.1 hc1 _ hmem)
      have ht' : AL.get st.fr t = some av := by
        have h2 : AL.get fr t = some av := ht
        rw [takeAL_get hfr] at h2
        split at h2
        · exact h2
        · cases h2
      obtain ⟨h1, h2⟩ := hr.fr t av ht'
      refine ⟨h1, ?_⟩
      rw [hs]
      cases av with
      | one c => exact sub_relC hh h2 hrefs
      | agg cs => obtain ⟨us, h3, h4⟩ := h2; exact ⟨us, h3, sub_relCs hh h4 hrefs⟩
      | tup rs =>
        obtain ⟨us, h3, h4⟩ := h2
        exact ⟨us, h3, h4.mono fun _ _ _ hz hc => ⟨sub_safe hh hz, hc⟩⟩
      | any => trivial
      | und => exact h2
    · have h2 : AL.get hp id = some o := ho
      rw [takeAL_get hhp] at h2
      split at h2
      · rename_i hid
        have := List.all_eq_true.1 hc3 id hid
        simpa using this
      · cases h2
  · cases h


theorem weak_give {st T : St} (d b : Nat) (row : List PV) (slots ids : List Nat) (nx : Nat) (h : restrict st slots ids nx = some T) (hb : AL.get st.hp b = some (.box (row.map .p))) (hd : AL.get st.fr d = some (.one (.box b 0))) (hbi : b ∉ ids) (hcap : ∀ x, ¬ K.cap x) : Weak K st ⟨AL.set T.fr d (.one (.p (.ptr row))), T.hp, T.nx⟩ := by
  intro σ a w hr
  obtain ⟨hr', hh⟩ := restrict_rel slots ids nx h hr
  have hs : sit K (fun i => if i ∈ ids then σ i else none) T w = (sit K σ st w).sub ids (AL.get T.hp) := rfl
  refine ⟨_, hr'.heap, fun t av ht => ?_, hr'.lt, hr'.df, hr'.nt, hr'.frm⟩
  have ht' : AL.get (AL.set T.fr d (.one (.p (.ptr row)))) t = some av := ht
  rw [AL.get_set] at ht'
  split at ht'
  · rename_i e
    cases ht'
    subst e
    obtain ⟨g1, cs, blk, g2, g3, g4⟩ := hr.fr t _ hd
    refine ⟨g1, ?_⟩
    obtain ⟨blk', vs, ty, e3, e4, e5⟩ := hr.heap.objs b _ hb
    rw [g3] at e3; cases e3
    show RelP (sit K (fun i => if i ∈ ids then σ i else none) T w).Safe w (.ptr row) _
    rw [g4]
    have hcell : ∀ (j : Nat) (c : PV), row[j]? = some c → ∃ x, vs[j]? = some x ∧ RelP (sit K σ st w).Safe w c x := by
      intro j c hj
      obtain ⟨x, hx, hrx⟩ := e5.2 j (.p c) (by rw [List.getElem?_map, hj]; rfl)
      exact ⟨x, hx, hrx⟩
    have hbase : K.w0.heap.size ≤ blk := by
      rcases (hr.heap.lt b _ blk g3 rfl).2 with h | h
      · exact h
      · exact absurd h (hcap _)
    refine .ptr row blk 0 (fun j => (vs[j]?).getD default) (fun j c hj => ?_) (fun j c hj => ⟨.inr hbase, fun id l hl hlb => ?_⟩) (fun j c hj => ?_)
    · obtain ⟨x, hx, _⟩ := hcell j c hj
      rw [cell_of_row w blk _ vs ty (0, 0) e4, Nat.zero_add, hx]; rfl
    · exfalso
      have hl' : (if id ∈ ids then σ id else none) = some l := hl
      split at hl'
      · rename_i hid
        have := hr.heap.inj id b l _ blk hl' g3 hlb rfl
        exact hbi (this ▸ hid)
      · cases hl'
    · obtain ⟨x, hx, hrx⟩ := hcell j c hj
      show RelP _ _ _ ((vs[j]?).getD default)
      rw [hx, hs]
      exact sub_relP hh hrx
  · exact hr'.fr t av ht'
end Go.Pv
