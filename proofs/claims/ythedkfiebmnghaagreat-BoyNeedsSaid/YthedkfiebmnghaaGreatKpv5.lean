/- Texts of the proof, joined. -/
import Derived.Test.YthedkfiebmnghaaGreatKpv3
import Derived.RecoverIn
set_option linter.all false
namespace Go.Pv
open Go Go.RowKit Go.Sh
variable {K : Kx}
def renCC (ρ : Nat → Nat) : CC → CC
 | .box b => .box (ρ b)
 | .p x => .p x
def renC (ρ : Nat → Nat) : AC → AC
 | .own t n => .own (ρ t) n
 | .box b o => .box (ρ b) o
 | .oix t i o => .oix (ρ t) i o
 | .fn f caps => .fn f (caps.map (renCC ρ))
 | .memo m => .memo (ρ m)
 | .yld l => .yld (ρ l)
 | .raw l => .raw (ρ l)
 | .ifc T b => .ifc T (ρ b)
 | .bfx f b => .bfx f (ρ b)
 | c => c
def renV (ρ : Nat → Nat) : AV → AV
 | .one c => .one (renC ρ c)
 | .agg cs => .agg (cs.map (renC ρ))
 | v => v
def renO (ρ : Nat → Nat) : Obj' → Obj'
 | .box cs => .box (cs.map (renC ρ))
 | o => o
def isBM : Obj' → Bool
 | .box _ => true
 | .memo _ _ _ => true
 | .raw _ _ => true
 | _ => false
def pinOf : Nat × Obj' → Nat × AV
 | (id, .box _) => (id, .one (.box id 0))
 | (id, .raw _ _) => (id, .one (.raw id))
 | (id, _) => (id, .one (.memo id))
def pins (hp : List (Nat × Obj')) : List (Nat × AV) := hp.map pinOf
theorem pinOf_fst (p : Nat × Obj') : (pinOf p).1 = p.1 := by
 obtain ⟨i, o⟩ := p
 cases o <;> rfl
theorem pins_get : ∀ (hp : List (Nat × Obj')) (t : Nat), AL.get (pins hp) t = (AL.get hp t).map fun o => (pinOf (t, o)).2
 | [], t => rfl
 | (i, o) :: r, t => by
  have hp := pinOf_fst (i, o)
  show AL.get (pinOf (i, o) :: pins r) t = _
  obtain ⟨j, av⟩ : ∃ x : Nat × AV, x = pinOf (i, o) := ⟨_, rfl⟩
  cases hq : pinOf (i, o) with
  | mk j v =>
   rw [hq] at hp
   simp only at hp
   subst hp
   simp only [AL.get]
   by_cases h : t = j
   ·subst h; simp [hq]
   ·rw [if_neg h, if_neg h, pins_get r t]
theorem pins_at {hp : List (Nat × Obj')} {t : Nat} {o : Obj'} (h : AL.get hp t = some o) : AL.get (pins hp) t = some (pinOf (t, o)).2 := by rw [pins_get, h]; rfl
theorem al_mem {α : Type} : ∀ {l : List (Nat × α)} {t : Nat} {x : α}, AL.get l t = some x → (t, x) ∈ l
 | [], t, x, h => by cases h
 | (i, y) :: r, t, x, h => by
  simp only [AL.get] at h
  split at h
  ·rename_i e; subst e; cases h; exact List.mem_cons_self
  ·exact List.mem_cons_of_mem _ (al_mem h)
def FunS (P : Program) (fid : FuncId) (avs : List AV) (hp : List (Nat × Obj')) (nx : Nat) (r : RR) : Prop :=
 ∀ Z w0 cap nt pan, CallF ⟨P, Z, w0, cap, nt, none, pan, none, [], false⟩ fid avs ⟨pins hp, hp, nx⟩ fun st' av => st' = ⟨pins hp, hp, nx⟩ ∧ av = avRR r
def FunSX (P : Program) (fid : FuncId) (avs : List AV) (hp : List (Nat × Obj')) (nx : Nat) (v : Value) : Prop :=
 ∀ Z w0 cap nt pan, (∀ ps st', ps = [{ v := v, recovered := false }] → st' = ⟨pins hp, hp, nx⟩ → pan ps st') → CallF ⟨P, Z, w0, cap, nt, none, pan, none, [], false⟩ fid avs ⟨pins hp, hp, nx⟩ fun _ _ => False
section
variable {σ : Nat → Option Value} {st : St} {a : Act} {w : World} {hp : List (Nat × Obj')} {ρ : Nat → Nat}
def capS (hp : List (Nat × Obj')) (ρ : Nat → Nat) (σ : Nat → Option Value) (k : Nat) : Prop := ∃ id o l, AL.get hp id = some o ∧ σ (ρ id) = some l ∧ locBlk l = some k
def sigS (hp : List (Nat × Obj')) (ρ : Nat → Nat) (σ : Nat → Option Value) (id : Nat) : Option Value := if (AL.get hp id).isSome then σ (ρ id) else none
theorem sigS_at {id : Nat} {o : Obj'} (h : AL.get hp id = some o) : sigS hp ρ σ id = σ (ρ id) := by unfold sigS; rw [h]; rfl
theorem sigS_some {id : Nat} {l : Value} (h : sigS hp ρ σ id = some l) : ∃ o, AL.get hp id = some o ∧ σ (ρ id) = some l := by
 unfold sigS at h
 split at h
 ·rename_i he
  obtain ⟨o, ho⟩ := Option.isSome_iff_exists.1 he
  exact ⟨o, ho, h⟩
 ·cases h
theorem safe_down {s : Sit} (hk : ∀ id o, AL.get hp id = some o → isBM o = true) (hO : ∀ id o, AL.get hp id = some o → s.h (ρ id) = some (renO ρ o)) {b c : Nat} (h : s.Safe b c) :
  Sit.Safe ⟨s.Safe, w.heap.size, capS hp ρ s.σ, sigS hp ρ s.σ, AL.get hp, w⟩ b c := by
 refine ⟨.inl h, fun id l hl hb => ?_⟩
 obtain ⟨o, ho, hσ⟩ := sigS_some (ρ := ρ) hl
 obtain ⟨E, k, rows, h1, _⟩ := h.2 (ρ id) l hσ hb
 rw [hO id o ho] at h1
 have := hk id o ho
 cases o <;> simp [renO, isBM] at h1 this
theorem down_P {s : Sit} (hw : s.w = w) (hk : ∀ id o, AL.get hp id = some o → isBM o = true) (hO : ∀ id o, AL.get hp id = some o → s.h (ρ id) = some (renO ρ o)) {x : PV} {u : Value} (h : RelP s.Safe s.w x u) :
  RelP (Sit.Safe ⟨s.Safe, w.heap.size, capS hp ρ s.σ, sigS hp ρ s.σ, AL.get hp, w⟩) w x u :=
 h.mono fun b c u hs hc => ⟨safe_down hk hO hs, by rw [← hw]; exact hc⟩
theorem box_down {s : Sit} (hk : ∀ id o, AL.get hp id = some o → isBM o = true) (hO : ∀ id o, AL.get hp id = some o → s.h (ρ id) = some (renO ρ o)) {b : Nat} {cs : List AC} (hb : ∃ o, AL.get hp b = some o) (h : s.h (ρ b) = some (.box cs)) : ∃ cs0, AL.get hp b = some (.box cs0) := by
 obtain ⟨o, ho⟩ := hb
 have h1 := hO b o ho
 rw [h] at h1
 have := hk b o ho
 cases o <;> simp [renO, isBM] at h1 this
 exact ⟨_, ho⟩
theorem arr_down {s : Sit} (hk : ∀ id o, AL.get hp id = some o → isBM o = true) (hO : ∀ id o, AL.get hp id = some o → s.h (ρ id) = some (renO ρ o)) {b : Nat} {E : TypeId} {k : Nat} {rows : List (List PV)} {sh : Bool} (hb : ∃ o, AL.get hp b = some o) (h : s.h (ρ b) = some (.arr E k rows sh)) : False := by
 obtain ⟨o, ho⟩ := hb
 have h1 := hO b o ho
 rw [h] at h1
 have := hk b o ho
 cases o <;> simp [renO, isBM] at h1 this
theorem raw_down {s : Sit} (hk : ∀ id o, AL.get hp id = some o → isBM o = true) (hO : ∀ id o, AL.get hp id = some o → s.h (ρ id) = some (renO ρ o)) {l b : Nat} {r : Obj} (hb : ∃ o, AL.get hp l = some o) (h : s.h (ρ l) = some (.raw b r)) : AL.get hp l = some (.raw b r) := by
 obtain ⟨o, ho⟩ := hb
 have h1 := hO l o ho
 rw [h] at h1
 have := hk l o ho
 cases o <;> simp [renO, isBM] at h1 this
 obtain ⟨rfl, rfl⟩ := h1
 exact ho
theorem lp_down {s : Sit} (hk : ∀ id o, AL.get hp id = some o → isBM o = true) (hO : ∀ id o, AL.get hp id = some o → s.h (ρ id) = some (renO ρ o)) {l b : Nat} {r : Loop} (hb : ∃ o, AL.get hp l = some o) (h : s.h (ρ l) = some (.lp b r)) : False := by
 obtain ⟨o, ho⟩ := hb
 have h1 := hO l o ho
 rw [h] at h1
 have := hk l o ho
 cases o <;> simp [renO, isBM] at h1 this
theorem down_CC {s : Sit} (hw : s.w = w) (hk : ∀ id o, AL.get hp id = some o → isBM o = true) (hO : ∀ id o, AL.get hp id = some o → s.h (ρ id) = some (renO ρ o)) {c : CC} {u : Value} (hr : There (AL.get hp) (refsCC c)) (h : RelCC s (renCC ρ c) u) :
  RelCC ⟨s.Safe, w.heap.size, capS hp ρ s.σ, sigS hp ρ s.σ, AL.get hp, w⟩ c u := by
 cases c with
 | box b =>
  obtain ⟨cs, blk, h1, h2, h3⟩ := h
  have hb := hr b (by simp [refsCC])
  obtain ⟨cs0, h0⟩ := box_down hk hO hb h1
  exact ⟨cs0, blk, h0, by show sigS hp ρ s.σ b = _; rw [sigS_at h0]; exact h2, h3⟩
 | p x => exact down_P hw hk hO h
theorem down_C {s : Sit} (hw : s.w = w) (hk : ∀ id o, AL.get hp id = some o → isBM o = true) (hO : ∀ id o, AL.get hp id = some o → s.h (ρ id) = some (renO ρ o)) {c : AC} {u : Value} (hr : There (AL.get hp) (refsC c)) (h : RelC s (renC ρ c) u) :
  RelC ⟨s.Safe, w.heap.size, capS hp ρ s.σ, sigS hp ρ s.σ, AL.get hp, w⟩ c u := by
 cases c with
 | p x => exact down_P hw hk hO h
 | own t n =>
  obtain ⟨E, k, rows, sh, l, h1, _⟩ := h
  exact (arr_down hk hO (hr t (by simp [refsC])) h1).elim
 | nil => exact h
 | box b o =>
  obtain ⟨cs, blk, h1, h2, h3⟩ := h
  obtain ⟨cs0, h0⟩ := box_down hk hO (hr b (by simp [refsC])) h1
  exact ⟨cs0, blk, h0, by show sigS hp ρ s.σ b = _; rw [sigS_at h0]; exact h2, h3⟩
 | ix row o =>
  obtain ⟨b, off, us, h1, h2⟩ := h
  refine ⟨b, off, us, h1, fun j c hj => ?_⟩
  obtain ⟨g1, g2, g3⟩ := h2 j c hj
  exact ⟨safe_down hk hO g1, by rw [← hw]; exact g2, down_P hw hk hO g3⟩
 | oix t i o =>
  obtain ⟨E, k, rows, sh, l, h1, _⟩ := h
  exact (arr_down hk hO (hr t (by simp [refsC])) h1).elim
 | fn f caps =>
  obtain ⟨us, h1, h2, h3⟩ := h
  refine ⟨us, h1, by simpa using h2, fun j c hj => ?_⟩
  obtain ⟨x, hx, hrx⟩ := h3 j (renCC ρ c) (by rw [List.getElem?_map, hj]; rfl)
  refine ⟨x, hx, down_CC hw hk hO (fun i hi => hr i ?_) hrx⟩
  simp only [refsC, List.mem_flatMap]
  exact ⟨c, List.mem_of_getElem? hj, hi⟩
 | any => exact h
 | memo m =>
  obtain ⟨P, k, I, b, h1, h2, h3⟩ := h
  obtain ⟨o, ho⟩ := hr m (by simp [refsC])
  have h4 := hO m o ho
  rw [show s.h (ρ m) = _ from h1] at h4
  have hb := hk m o ho
  have : o = .memo P k I := by cases o <;> simp [renO, isBM] at h4 hb; obtain ⟨rfl, rfl, rfl⟩ := h4; rfl
  subst this
  exact ⟨P, k, I, b, ho, by show sigS hp ρ s.σ m = _; rw [sigS_at ho]; exact h2, h3⟩
 | raw l =>
  obtain ⟨b, o, h1, h2, h3⟩ := h
  have h0 := raw_down hk hO (hr l (by simp [refsC])) h1
  exact ⟨b, o, h0, by show sigS hp ρ s.σ l = _; rw [sigS_at h0]; exact h2, h3⟩
 | yld l =>
  obtain ⟨r, b, h1, _⟩ := h
  exact (lp_down hk hO (hr l (by simp [refsC])) h1).elim
 | bfn f first =>
  obtain ⟨us, h1, h2⟩ := h
  exact ⟨us, h1, h2.mono fun b c u hs hc => ⟨safe_down hk hO hs, by rw [← hw]; exact hc⟩⟩
 | ifc T b =>
  obtain ⟨cs, blk, h1, h2, h3⟩ := h
  obtain ⟨cs0, h0⟩ := box_down hk hO (hr b (by simp [refsC])) h1
  exact ⟨cs0, blk, h0, by show sigS hp ρ s.σ b = _; rw [sigS_at h0]; exact h2, h3⟩
 | bfx f b =>
  obtain ⟨cs, blk, h1, h2, h3⟩ := h
  obtain ⟨cs0, h0⟩ := box_down hk hO (hr b (by simp [refsC])) h1
  exact ⟨cs0, blk, h0, by show sigS hp ρ s.σ b = _; rw [sigS_at h0]; exact h2, h3⟩
theorem down_Cs {s : Sit} (hw : s.w = w) (hk : ∀ id o, AL.get hp id = some o → isBM o = true) (hO : ∀ id o, AL.get hp id = some o → s.h (ρ id) = some (renO ρ o)) {cs : List AC} {us : Array Value} (hr : There (AL.get hp) (cs.flatMap refsC)) (h : RelCs s (cs.map (renC ρ)) us) :
  RelCs ⟨s.Safe, w.heap.size, capS hp ρ s.σ, sigS hp ρ s.σ, AL.get hp, w⟩ cs us := by
 refine ⟨by simpa using h.1, fun j c hj => ?_⟩
 obtain ⟨x, hx, hrx⟩ := h.2 j (renC ρ c) (by rw [List.getElem?_map, hj]; rfl)
 exact ⟨x, hx, down_C hw hk hO (fun i hi => hr i (List.mem_flatMap.2 ⟨c, List.mem_of_getElem? hj, hi⟩)) hrx⟩
theorem down_V {s : Sit} (hw : s.w = w) (hk : ∀ id o, AL.get hp id = some o → isBM o = true) (hO : ∀ id o, AL.get hp id = some o → s.h (ρ id) = some (renO ρ o)) {av : AV} {u : Value} (hr : There (AL.get hp) (refsV av)) (h : RelV s (renV ρ av) u) :
  RelV ⟨s.Safe, w.heap.size, capS hp ρ s.σ, sigS hp ρ s.σ, AL.get hp, w⟩ av u := by
 cases av with
 | one c => exact down_C hw hk hO hr h
 | agg cs =>
  obtain ⟨us, h1, h2⟩ := h
  exact ⟨us, h1, down_Cs hw hk hO hr h2⟩
 | tup rs =>
  obtain ⟨us, h1, h2⟩ := h
  exact ⟨us, h1, h2.mono fun b c u hs hc => ⟨safe_down hk hO hs, by rw [← hw]; exact hc⟩⟩
 | any => exact h
 | und => exact h
theorem up_P {s : Sit} (H : Heap0 s) {σ' : Nat → Option Value} {cap : Nat → Prop} {w' : World} {x : PV} {u : Value} (hbase : s.base ≤ s.w.heap.size) (h : RelP (Sit.Safe ⟨s.Safe, s.w.heap.size, cap, σ', AL.get hp, w'⟩) w' x u) :
  RelP (s.at w').Safe w' x u := by
 refine h.mono fun b c u hs hc => ⟨?_, hc⟩
 rcases hs.1 with h1 | h1
 ·exact h1
 ·refine ⟨.inr (Nat.le_trans hbase h1), fun id l hl hb => ?_⟩
  have := (H.lt id l b hl hb).1
  have h1' : s.w.heap.size ≤ b := h1
  omega
theorem up_CC {s : Sit} (H : Heap0 s) (hbase : s.base ≤ s.w.heap.size) (hk : ∀ id o, AL.get hp id = some o → isBM o = true) (hO : ∀ id o, AL.get hp id = some o → s.h (ρ id) = some (renO ρ o)) {σ' : Nat → Option Value} {cap : Nat → Prop} {w' : World} (hσ : ∀ id o, AL.get hp id = some o → σ' id = s.σ (ρ id)) {c : CC} {u : Value}
  (h : RelCC ⟨s.Safe, s.w.heap.size, cap, σ', AL.get hp, w'⟩ c u) : RelCC (s.at w') (renCC ρ c) u := by
 cases c with
 | box b =>
  obtain ⟨cs, blk, h1, h2, h3⟩ := h
  exact ⟨cs.map (renC ρ), blk, hO b _ h1, (hσ b _ h1).symm.trans h2, h3⟩
 | p x => exact up_P H hbase h
theorem up_C {s : Sit} (H : Heap0 s) (hbase : s.base ≤ s.w.heap.size) (hk : ∀ id o, AL.get hp id = some o → isBM o = true) (hO : ∀ id o, AL.get hp id = some o → s.h (ρ id) = some (renO ρ o)) {σ' : Nat → Option Value} {cap : Nat → Prop} {w' : World} (hσ : ∀ id o, AL.get hp id = some o → σ' id = s.σ (ρ id)) {c : AC} {u : Value}
  (h : RelC ⟨s.Safe, s.w.heap.size, cap, σ', AL.get hp, w'⟩ c u) : RelC (s.at w') (renC ρ c) u := by
 have hsafe : ∀ {b c : Nat}, Sit.Safe ⟨s.Safe, s.w.heap.size, cap, σ', AL.get hp, w'⟩ b c → (s.at w').Safe b c := by
  intro b c hs
  rcases hs.1 with h1 | h1
  ·exact h1
  ·refine ⟨.inr (Nat.le_trans hbase h1), fun id l hl hb => ?_⟩
   have := (H.lt id l b hl hb).1
   have h1' : s.w.heap.size ≤ b := h1
   omega
 cases c with
 | p x => exact up_P H hbase h
 | own t n =>
  obtain ⟨E, k, rows, sh, l, h1, _⟩ := h
  have := hk t _ h1
  cases this
 | nil => exact h
 | box b o =>
  obtain ⟨cs, blk, h1, h2, h3⟩ := h
  exact ⟨cs.map (renC ρ), blk, hO b _ h1, (hσ b _ h1).symm.trans h2, h3⟩
 | ix row o =>
  obtain ⟨b, off, us, h1, h2⟩ := h
  refine ⟨b, off, us, h1, fun j c hj => ?_⟩
  obtain ⟨g1, g2, g3⟩ := h2 j c hj
  exact ⟨hsafe g1, g2, up_P H hbase g3⟩
 | oix t i o =>
  obtain ⟨E, k, rows, sh, l, h1, _⟩ := h
  have := hk t _ h1
  cases this
 | fn f caps =>
  obtain ⟨us, h1, h2, h3⟩ := h
  refine ⟨us, h1, by simpa using h2, fun j c hj => ?_⟩
  rw [List.getElem?_map] at hj
  obtain ⟨c0, hc0, rfl⟩ := Option.map_eq_some_iff.1 hj
  obtain ⟨x, hx, hrx⟩ := h3 j c0 hc0
  exact ⟨x, hx, up_CC H hbase hk hO hσ hrx⟩
 | any => exact h
 | memo m =>
  obtain ⟨P, k, I, b, h1, h2, h3⟩ := h
  exact ⟨P, k, I, b, hO m _ h1, (hσ m _ h1).symm.trans h2, h3⟩
 | raw l =>
  obtain ⟨b, o, h1, h2, h3⟩ := h
  exact ⟨b, o, hO l _ h1, (hσ l _ h1).symm.trans h2, h3⟩
 | yld l =>
  obtain ⟨r, b, h1, _⟩ := h
  have := hk l _ h1
  cases this
 | bfn f first =>
  obtain ⟨us, h1, h2⟩ := h
  exact ⟨us, h1, h2.mono fun b c u hs hc => ⟨hsafe hs, hc⟩⟩
 | ifc T b =>
  obtain ⟨cs, blk, h1, h2, h3⟩ := h
  exact ⟨cs.map (renC ρ), blk, hO b _ h1, (hσ b _ h1).symm.trans h2, h3⟩
 | bfx f b =>
  obtain ⟨cs, blk, h1, h2, h3⟩ := h
  exact ⟨cs.map (renC ρ), blk, hO b _ h1, (hσ b _ h1).symm.trans h2, h3⟩
theorem rr_avRR {s : Sit} {r : RR} {u : Value} : RelV s (avRR r) u ↔ RelRR s.Safe s.w r u := by
 refine ⟨fun h => ?_, avRR_rel⟩
 cases r with
 | one r =>
  cases r with
  | one x => exact h
  | agg cs =>
   obtain ⟨us, rfl, hs, h⟩ := h
   refine ⟨us, rfl, by simpa using hs, fun j c hj => ?_⟩
   exact h j (.p c) (by rw [List.getElem?_map, hj]; rfl)
 | tup rs => exact h
theorem lift_back (hr : Rel K σ st a w) (hk : ∀ id o, AL.get hp id = some o → isBM o = true) (hO : ∀ id o, AL.get hp id = some o → AL.get st.hp (ρ id) = some (renO ρ o)) {K0 : Kx} (hZ : K0.Z = (sit K σ st w).Safe) (hw0 : K0.w0 = w) (hcap : K0.cap = capS hp ρ σ)
  {a0 : Act} (ha0 : ∀ id o, AL.get hp id = some o → ∀ l, σ (ρ id) = some l → a0.tmps.getD id undef = l) {σ' : Nat → Option Value} {nx : Nat} {w' : World} (hr' : Rel K0 σ' ⟨pins hp, hp, nx⟩ a0 w') :
  Rel K σ st a w' ∧ ∀ r u, RelV (sit K0 σ' ⟨pins hp, hp, nx⟩ w') (avRR r) u → RelV (sit K σ st w') (avRR r) u := by
 have hbase : (sit K σ st w).base ≤ w.heap.size := hr.frm.size
 have hσ : ∀ id o, AL.get hp id = some o → σ' id = σ (ρ id) := by
  intro id o ho
  have hp1 := (hr'.fr id _ (pins_at ho)).2
  have hb := hk id o ho
  have hO' := hr.heap.objs (ρ id) _ (hO id o ho)
  cases o with
  | box cs =>
   obtain ⟨blk, vs, ty, h1, _⟩ := hO'
   have h1' : σ (ρ id) = some (.pointer (some ⟨blk, 0, none⟩)) := h1
   obtain ⟨cs', blk', g1, g2, g3⟩ := hp1
   have g2' : σ' id = some (.pointer (some ⟨blk', 0, none⟩)) := g2
   rw [ha0 id _ ho _ h1'] at g3
   rw [g2', h1', g3]
  | memo P k I =>
   obtain ⟨b, h1, _⟩ := hO'
   have h1' : σ (ρ id) = some (.map (some b)) := h1
   obtain ⟨P', k', I', b', g1, g2, g3⟩ := hp1
   have g2' : σ' id = some (.map (some b')) := g2
   rw [ha0 id _ ho _ h1'] at g3
   rw [g2', h1', g3]
  | raw b o =>
   obtain ⟨l, h1, h2, h3⟩ := hO'
   have h1' : σ (ρ id) = some l := h1
   obtain ⟨b', o', g1, g2, _⟩ := hp1
   have g2' : σ' id = some (a0.tmps.getD id undef) := g2
   rw [ha0 id _ ho _ h1'] at g2'
   rw [g2', h1']
  | _ => cases hb
 have hfrm : Frm (capS hp ρ σ) w w' := by have := hr'.frm; rw [hcap, hw0] at this; exact this
 have hblk : ∀ k, k < w.heap.size → ¬ capS hp ρ σ k → w'.heap[k]? = w.heap[k]? := fun k h1 h2 => hfrm.block k h1 h2
 have hnot : ∀ b c, (sit K σ st w).Safe b c → ¬ capS hp ρ σ b := by
  rintro b c hs ⟨id, o, l, h1, h2, h3⟩
  obtain ⟨E, k, rows, h4, _⟩ := hs.2 (ρ id) l h2 h3
  have h4' : AL.get st.hp (ρ id) = some (.arr E k rows true) := h4
  rw [hO id o h1] at h4'
  have := hk id o h1
  cases o <;> simp [renO, isBM] at h4' this
 have he : Ext (sit K σ st w) (sit K σ st w') := by
  refine ⟨fun b c u hs hc => ?_, fun b c _ hs => hs, fun id cs l h1 h2 => ⟨h2, cs, h1⟩, fun id E k rows sh l h1 h2 => ⟨rows, sh, l, h1, h2, .inl ⟨rfl, rfl, fun h => h⟩⟩, fun id P k I0 l h1 h2 => ⟨h2, I0, h1⟩, fun id b r l h1 h2 => ⟨h2, r, h1⟩, fun id b r l h1 h2 => ⟨h2, r, h1⟩⟩
  show w'.cell? _ = _
  rw [World.cell?_of_block (hblk b (World.block_lt_of_cell? _ _ hc) (hnot b c hs))]
  exact hc
 have hsit : sit K0 σ' ⟨pins hp, hp, nx⟩ w' = ⟨(sit K σ st w).Safe, (sit K σ st w).w.heap.size, capS hp ρ σ, σ', AL.get hp, w'⟩ := by
  unfold sit
  rw [hZ, hw0, hcap]
  rfl
 have hheap : Heap0 (sit K σ st w') := by
  refine ⟨fun id o ho => ?_, hr.heap.dom, hr.heap.inj, fun id l b hl hb => ?_⟩
  ·have h0 := hr.heap.objs id o ho
   by_cases hid : ∃ i0 o0, AL.get hp i0 = some o0 ∧ ρ i0 = id
   ·obtain ⟨i0, o0, h1, rfl⟩ := hid
    have h2 : AL.get st.hp (ρ i0) = some (renO ρ o0) := hO i0 o0 h1
    have ho' : AL.get st.hp (ρ i0) = some o := ho
    rw [h2] at ho'; cases ho'
    have h3 := hr'.heap.objs i0 o0 h1
    rw [hsit] at h3
    have hb := hk i0 o0 h1
    cases o0 with
    | box cs =>
     obtain ⟨blk, vs, ty, g1, g2, g3⟩ := h3
     refine ⟨blk, vs, ty, (hσ i0 _ h1).symm.trans g1, g2, by simpa using g3.1, fun j c hj => ?_⟩
     rw [List.getElem?_map] at hj
     obtain ⟨c0, hc0, rfl⟩ := Option.map_eq_some_iff.1 hj
     obtain ⟨x, hx, hrx⟩ := g3.2 j c0 hc0
     exact ⟨x, hx, up_C (s := sit K σ st w) hr.heap hbase hk hO (w' := w') hσ hrx⟩
    | memo P k I =>
     obtain ⟨b, g1, g2⟩ := h3
     exact ⟨b, (hσ i0 _ h1).symm.trans g1, g2⟩
    | raw b o =>
     obtain ⟨l, g1, g2, g3⟩ := h3
     exact ⟨l, (hσ i0 _ h1).symm.trans g1, g2, g3⟩
    | _ => cases hb
   ·refine h0.ext he rfl rfl fun l b hl hb => ?_
    refine hblk b (hr.heap.lt id l b hl hb).1 ?_
    rintro ⟨i0, o0, l0, h1, h2, h3⟩
    exact hid ⟨i0, o0, h1, hr.heap.inj _ _ l0 l b h2 hl h3 hb⟩
  ·have := hr.heap.lt id l b hl hb
   exact ⟨Nat.lt_of_lt_of_le this.1 hfrm.size, this.2⟩
 refine ⟨⟨hheap, fun t av ht => ⟨(hr.fr t av ht).1, he.relV (hr.fr t av ht).2⟩, hr.lt, hr.df.to rfl rfl fun D hD => ?_, hr.nt, ?_⟩, fun r u hv => ?_⟩
 ·unfold DfrAt at hD ⊢
  rw [hblk D (Array.getElem?_eq_some_iff.1 hD).1 ?_]
  ·exact hD
  ·rintro ⟨i0, o0, l0, h1, h2, h3⟩
   rcases hr.heap.cellsAt (s := sit K σ st w) h2 h3 with ⟨cs, t, fz, hc⟩ | ⟨es, ck, hc⟩ | ⟨r, hc⟩ | ⟨_, _, _, _, hc⟩
   ·rw [show (sit K σ st w).w.heap[D]? = _ from hD] at hc; cases hc
   ·rw [show (sit K σ st w).w.heap[D]? = _ from hD] at hc; cases hc
   ·rw [show (sit K σ st w).w.heap[D]? = _ from hD] at hc; cases hc
   ·rw [show (sit K σ st w).w.heap[D]? = _ from hD] at hc; cases hc
 ·refine ⟨hfrm.os.trans hr.frm.os, hfrm.tape.trans hr.frm.tape, hfrm.output.trans hr.frm.output, Nat.le_trans hr.frm.size hfrm.size, fun k h1 h2 => ?_⟩
  refine (hblk k (Nat.lt_of_lt_of_le h1 hr.frm.size) ?_).trans (hr.frm.block k h1 h2)
  rintro ⟨i0, o0, l0, h3, h4, h5⟩
  rcases (hr.heap.lt _ l0 k h4 h5).2 with h6 | h6
  ·have h6' : K.w0.heap.size ≤ k := h6
   omega
  ·exact h2 h6
 ·rw [hsit] at hv
  have hsafe : ∀ b c, Sit.Safe ⟨(sit K σ st w).Safe, (sit K σ st w).w.heap.size, capS hp ρ σ, σ', AL.get hp, w'⟩ b c → (sit K σ st w').Safe b c := by
   intro b c hs
   rcases hs.1 with h1 | h1
   ·exact h1
   ·refine ⟨.inr (Nat.le_trans hbase h1), fun id l hl hb => ?_⟩
    have := (hr.heap.lt id l b hl hb).1
    have h1' : w.heap.size ≤ b := h1
    have h2' : b < w.heap.size := this
    omega
  have := RelRR.mono (Z' := (sit K σ st w').Safe) (w' := w') (fun b c u hs hc => ⟨hsafe b c hs, hc⟩) (rr_avRR.1 hv)
  exact avRR_rel this
def shutS (hp : List (Nat × Obj')) (nx : Nat) (avs : List AV) : Bool :=
 (hp.all fun p => isBM p.2 && decide (p.1 < nx) && (refsO p.2).all fun i => (AL.get hp i).isSome) && avs.all fun av => (refsV av).all fun i => (AL.get hp i).isSome
theorem lift_to (hr : Rel K σ st a w) {avs0 : List AV} {nx : Nat} (hsh : shutS hp nx avs0 = true) (hO : ∀ p ∈ hp, AL.get st.hp (ρ p.1) = some (renO ρ p.2)) (hinj : ∀ p ∈ hp, ∀ q ∈ hp, ρ p.1 = ρ q.1 → p.1 = q.1)
  {us : Array Value} (hus : RelVs (sit K σ st w) (avs0.map (renV ρ)) us) (pan : List PanicEntry → St → Prop) :
  ∃ a0 : Act, (∀ id o, AL.get hp id = some o → ∀ l, σ (ρ id) = some l → a0.tmps.getD id undef = l) ∧
   Rel ⟨K.P, (sit K σ st w).Safe, w, capS hp ρ σ, nx, none, pan, none, [], false⟩ (sigS hp ρ σ) ⟨pins hp, hp, nx⟩ a0 w ∧ RelVs (sit ⟨K.P, (sit K σ st w).Safe, w, capS hp ρ σ, nx, none, pan, none, [], false⟩ (sigS hp ρ σ) ⟨pins hp, hp, nx⟩ w) avs0 us := by
 unfold shutS at hsh
 simp only [Bool.and_eq_true, List.all_eq_true, decide_eq_true_eq] at hsh
 obtain ⟨h1, h2⟩ := hsh
 have hth : ∀ {l : List Nat}, (∀ i ∈ l, (AL.get hp i).isSome = true) → There (AL.get hp) l := fun h i hi => Option.isSome_iff_exists.1 (h i hi)
 have hk : ∀ id o, AL.get hp id = some o → isBM o = true := fun id o ho => (h1 _ (al_mem ho)).1.1
 have hO' : ∀ id o, AL.get hp id = some o → (sit K σ st w).h (ρ id) = some (renO ρ o) := fun id o ho => hO _ (al_mem ho)
 let a0 : Act := { tmps := ((List.range nx).map fun i => (σ (ρ i)).getD undef).toArray, defers := [] }
 have ha0 : ∀ id o, AL.get hp id = some o → ∀ l, σ (ρ id) = some l → a0.tmps.getD id undef = l := by
  intro id o ho l hl
  have := (h1 _ (al_mem ho)).1.2
  simp only at this
  simp [a0, Array.getD, this, hl]
 have hsit : sit ⟨K.P, (sit K σ st w).Safe, w, capS hp ρ σ, nx, none, pan, none, [], false⟩ (sigS hp ρ σ) ⟨pins hp, hp, nx⟩ w = ⟨(sit K σ st w).Safe, w.heap.size, capS hp ρ (sit K σ st w).σ, sigS hp ρ (sit K σ st w).σ, AL.get hp, w⟩ := rfl
 refine ⟨a0, ha0, ⟨⟨fun id o ho => ?_, fun id l hl => ?_, fun i i' l l' b hi hi' hb hb' => ?_, fun id l b hl hb => ?_⟩, fun t av ht => ?_, fun id o ho => (h1 _ (al_mem ho)).1.2, ⟨[], rfl, List.nodup_nil, fun D hD => (by cases hD), fun D hD => (by cases hD), fun _ => rfl⟩, by simp [a0], ⟨rfl, rfl, rfl, Nat.le_refl _, fun _ _ _ => rfl⟩⟩, ?_⟩
 ·rw [hsit]
  have ho' : AL.get hp id = some o := ho
  have hb := hk id o ho'
  have h3 := hr.heap.objs (ρ id) _ (hO' id o ho')
  cases o with
  | box cs =>
   obtain ⟨blk, vs, ty, g1, g2, g3⟩ := h3
   refine ⟨blk, vs, ty, by show sigS hp ρ σ id = _; rw [sigS_at ho']; exact g1, g2, ?_⟩
   exact down_Cs (s := sit K σ st w) rfl hk hO' (hth ((h1 _ (al_mem ho')).2)) g3
  | memo P k I =>
   obtain ⟨b, g1, g2⟩ := h3
   exact ⟨b, by show sigS hp ρ σ id = _; rw [sigS_at ho']; exact g1, g2⟩
  | raw b o =>
   obtain ⟨l, g1, g2, g3⟩ := h3
   exact ⟨l, by show sigS hp ρ σ id = _; rw [sigS_at ho']; exact g1, g2, g3⟩
  | _ => cases hb
 ·obtain ⟨o, ho, _⟩ := sigS_some (ρ := ρ) hl
  exact ⟨o, ho⟩
 ·obtain ⟨o, ho, hs⟩ := sigS_some (ρ := ρ) hi
  obtain ⟨o', ho', hs'⟩ := sigS_some (ρ := ρ) hi'
  exact hinj _ (al_mem ho) _ (al_mem ho') (hr.heap.inj _ _ l l' b hs hs' hb hb')
 ·obtain ⟨o, ho, hs⟩ := sigS_some (ρ := ρ) hl
  exact ⟨(hr.heap.lt _ l b hs hb).1, .inr ⟨id, o, l, ho, hs, hb⟩⟩
 ·rw [hsit]
  have ht' : AL.get (pins hp) t = some av := ht
  rw [pins_get] at ht'
  obtain ⟨o, ho, rfl⟩ := Option.map_eq_some_iff.1 ht'
  have hlt := (h1 _ (al_mem ho)).1.2
  refine ⟨by simpa [a0] using hlt, ?_⟩
  have hb := hk t o ho
  have h3 := hr.heap.objs (ρ t) _ (hO' t o ho)
  cases o with
  | box cs =>
   obtain ⟨blk, vs, ty, g1, _⟩ := h3
   have g1' : σ (ρ t) = some (.pointer (some ⟨blk, 0, none⟩)) := g1
   refine ⟨cs, blk, ho, by show sigS hp ρ σ t = _; rw [sigS_at ho]; exact g1', ?_⟩
   exact ha0 t _ ho _ g1'
  | memo P k I =>
   obtain ⟨b, g1, _⟩ := h3
   have g1' : σ (ρ t) = some (.map (some b)) := g1
   exact ⟨P, k, I, b, ho, by show sigS hp ρ σ t = _; rw [sigS_at ho]; exact g1', ha0 t _ ho _ g1'⟩
  | raw b o =>
   obtain ⟨l, g1, g2, _⟩ := h3
   have g1' : σ (ρ t) = some l := g1
   have hu := ha0 t _ ho _ g1'
   refine ⟨b, o, ho, by show sigS hp ρ σ t = some _; rw [sigS_at ho, hu]; exact g1', ?_⟩
   rw [hu]
   cases o <;> simp [locRaw] at g2 <;> subst g2 <;> rfl
  | _ => cases hb
 ·rw [hsit]
  refine ⟨by simpa using hus.1, fun j av hj => ?_⟩
  obtain ⟨x, hx, hrx⟩ := hus.2 j (renV ρ av) (by rw [List.getElem?_map, hj]; rfl)
  exact ⟨x, hx, down_V (s := sit K σ st w) rfl hk hO' (hth (h2 av (List.mem_of_getElem? hj))) hrx⟩
end
theorem callF_lift {st : St} {fid : FuncId} {avs : List AV} {avs0 : List AV} {hp : List (Nat × Obj')} {nx : Nat} {r : RR} (ids : List Nat) (hS : FunS K.P fid avs0 hp nx r) (hsh : shutS hp nx avs0 = true)
  (hO : ∀ p ∈ hp, AL.get st.hp (ids.getD p.1 0) = some (renO (fun i => ids.getD i 0) p.2)) (hinj : ∀ p ∈ hp, ∀ q ∈ hp, ids.getD p.1 0 = ids.getD q.1 0 → p.1 = q.1) (ha : avs = avs0.map (renV fun i => ids.getD i 0)) :
  CallF K fid avs st fun st' av => st' = st ∧ av = avRR r := by
 subst ha
 intro σ a w us hr hus
 obtain ⟨a0, ha0, hr0, hus0⟩ := lift_to hr (ρ := fun i => ids.getD i 0) hsh hO hinj hus noPan
 have hk : ∀ id o, AL.get hp id = some o → isBM o = true := fun id o ho => by
  unfold shutS at hsh
  simp only [Bool.and_eq_true, List.all_eq_true, decide_eq_true_eq] at hsh
  exact (hsh.1 _ (al_mem ho)).1.1
 refine (hS _ _ _ _ _ _ _ _ _ hr0 hus0).mono fun e w' he => ?_
 rcases he with ⟨u, he, σ', st', av, h1, h2, rfl, rfl⟩ | ⟨ps, he, σ', st', h1, h2⟩
 ·obtain ⟨q1, q2⟩ := lift_back hr hk (fun id o ho => hO _ (al_mem ho)) (K0 := ⟨K.P, (sit K σ st w).Safe, w, capS hp (fun i => ids.getD i 0) σ, nx, none, noPan, none, [], false⟩) rfl rfl rfl ha0 h1
  exact .inl ⟨u, he, σ, st, _, q1, q2 r u h2, rfl, rfl⟩
 ·exact h2.elim
theorem callF_liftX {st : St} {fid : FuncId} {avs : List AV} {avs0 : List AV} {hp : List (Nat × Obj')} {nx : Nat} {v : Value} (ids : List Nat) (hS : FunSX K.P fid avs0 hp nx v) (hsh : shutS hp nx avs0 = true)
  (hO : ∀ p ∈ hp, AL.get st.hp (ids.getD p.1 0) = some (renO (fun i => ids.getD i 0) p.2)) (hinj : ∀ p ∈ hp, ∀ q ∈ hp, ids.getD p.1 0 = ids.getD q.1 0 → p.1 = q.1) (ha : avs = avs0.map (renV fun i => ids.getD i 0))
  (hpan : K.pan [{ v := v, recovered := false }] st) {Q : St → AV → Prop} : CallF K fid avs st Q := by
 subst ha
 intro σ a w us hr hus
 obtain ⟨a0, ha0, hr0, hus0⟩ := lift_to hr (ρ := fun i => ids.getD i 0) hsh hO hinj hus fun ps st' => ps = [{ v := v, recovered := false }] ∧ st' = ⟨pins hp, hp, nx⟩
 have hk : ∀ id o, AL.get hp id = some o → isBM o = true := fun id o ho => by
  unfold shutS at hsh
  simp only [Bool.and_eq_true, List.all_eq_true, decide_eq_true_eq] at hsh
  exact (hsh.1 _ (al_mem ho)).1.1
 refine (hS _ _ _ _ _ (fun ps st' h1 h2 => ⟨h1, h2⟩) _ _ _ _ hr0 hus0).mono fun e w' he => ?_
 rcases he with ⟨u, he, σ', st', av, h1, h2, h3⟩ | ⟨ps, he, σ', st', h1, rfl, rfl⟩
 ·exact h3.elim
 ·obtain ⟨q1, _⟩ := lift_back hr hk (fun id o ho => hO _ (al_mem ho)) (K0 := ⟨K.P, (sit K σ st w).Safe, w, capS hp (fun i => ids.getD i 0) σ, nx, none, fun ps st' => ps = [{ v := v, recovered := false }] ∧ st' = ⟨pins hp, hp, nx⟩, none, [], false⟩) rfl rfl rfl ha0 h1
  exact .inr ⟨_, he, σ, st, q1, hpan⟩
def objsAt (h : Nat → Option Obj') (ids : List Nat) : List (Nat × Obj') → Prop
 | [] => True
 | (i, o) :: r => h (ids.getD i 0) = some (renO (fun i => ids.getD i 0) o) ∧ objsAt h ids r
theorem objsAt_mem {h : Nat → Option Obj'} {ids : List Nat} : ∀ {hp : List (Nat × Obj')}, objsAt h ids hp → ∀ p ∈ hp, h (ids.getD p.1 0) = some (renO (fun i => ids.getD i 0) p.2)
 | [], _, p, hp => by cases hp
 | (i, o) :: r, ho, p, hp => by
  rcases List.mem_cons.1 hp with rfl | hp
  ·exact ho.1
  ·exact objsAt_mem ho.2 p hp
theorem ids_inj {ids : List Nat} (hnd : ids.Nodup) {i j : Nat} (hi : i < ids.length) (hj : j < ids.length) (h : ids.getD i 0 = ids.getD j 0) : i = j := by
 rw [List.getD_eq_getElem?_getD, List.getD_eq_getElem?_getD, List.getElem?_eq_getElem hi, List.getElem?_eq_getElem hj] at h
 rw [List.nodup_iff_pairwise_ne] at hnd
 rcases Nat.lt_trichotomy i j with hl | hl | hl
 ·exact absurd (Option.some.inj (by simpa using h)) ((List.pairwise_iff_getElem.1 hnd) i j hi hj hl)
 ·exact hl
 ·exact absurd (Option.some.inj (by simpa using h)).symm ((List.pairwise_iff_getElem.1 hnd) j i hj hi hl)
theorem shutS_lt {hp : List (Nat × Obj')} {nx : Nat} {avs : List AV} (h : shutS hp nx avs = true) : ∀ p ∈ hp, p.1 < nx := by
 unfold shutS at h
 simp only [Bool.and_eq_true, List.all_eq_true, decide_eq_true_eq] at h
 exact fun p hp => (h.1 p hp).1.2
section
variable {st : St} {fid : FuncId} {avs avs0 : List AV} {hp : List (Nat × Obj')} {nx : Nat} {r : RR} {v : Value}
theorem callF_S (ids : List Nat) (hS : FunS K.P fid avs0 hp nx r) (hsh : shutS hp nx avs0 = true) (hO : objsAt (AL.get st.hp) ids hp) (hnd : ids.Nodup) (hlen : nx ≤ ids.length) (ha : avs = avs0.map (renV fun i => ids.getD i 0)) :
  CallF K fid avs st fun st' av => st' = st ∧ av = avRR r :=
 callF_lift ids hS hsh (objsAt_mem hO) (fun p hp q hq h => ids_inj hnd (Nat.lt_of_lt_of_le (shutS_lt hsh p hp) hlen) (Nat.lt_of_lt_of_le (shutS_lt hsh q hq) hlen) h) ha
theorem callF_SX (ids : List Nat) (hS : FunSX K.P fid avs0 hp nx v) (hsh : shutS hp nx avs0 = true) (hO : objsAt (AL.get st.hp) ids hp) (hnd : ids.Nodup) (hlen : nx ≤ ids.length) (ha : avs = avs0.map (renV fun i => ids.getD i 0))
  (hpan : K.pan [{ v := v, recovered := false }] st) {Q : St → AV → Prop} : CallF K fid avs st Q :=
 callF_liftX ids hS hsh (objsAt_mem hO) (fun p hp q hq h => ids_inj hnd (Nat.lt_of_lt_of_le (shutS_lt hsh p hp) hlen) (Nat.lt_of_lt_of_le (shutS_lt hsh q hq) hlen) h) ha hpan
end
theorem refs_avRR (r : RR) : refsV (avRR r) = [] := by
 cases r with
 | one r =>
  cases r with
  | one x => rfl
  | agg cs =>
   show (cs.map AC.p).flatMap refsC = []
   rw [List.flatMap_eq_nil_iff]
   intro c hc
   obtain ⟨x, _, rfl⟩ := List.mem_map.1 hc
   rfl
 | tup rs => rfl
theorem funS_ok {P : Program} {f : FuncId} {avs : List AV} {hp : List (Nat × Obj')} {nx : Nat} {r : RR} {fn : Func} {c : Code} {nt : Nat} {rs : List ResultVar} (hf : P.funcs[f]? = some fn) (hb : fn.body = some c) (hnt : fn.ntmps = nt) (hrs : fn.results.toList = rs) (hn : avs.length ≤ nt)
  (h : ∀ Z w0 cap pan dk tm, AW ⟨P, Z, w0, cap, nt, none, pan, none, dk, true⟩ c (fun e st' => (e = .normal ∨ e = .ret) ∧ resV P st' rs = some (avRR r) ∧ AL.get st'.hp nx = some (.kept (pins hp) tm) ∧ ∀ p ∈ hp, AL.get st'.hp p.1 = some p.2)
   ⟨initV 0 avs, (nx, .kept (pins hp) tm) :: hp, nx + 1⟩) : FunS P f avs hp nx r := by
 intro Z w0 cap nt0 pan
 refine callF_to hf hb hnt hrs hn fun hcl tm Ds => ?_
 refine (h Z w0 cap _ (Ds ++ []) tm).mono fun e st' hq => ?_
 obtain ⟨h1, h2, h3, h4⟩ := hq
 exact ⟨h1, _, h2, h3, ⟨pins hp, hp, nx⟩, rfl, hcl, fun id o ho => h4 _ (al_mem ho), by rw [refs_avRR]; exact fun i hi => (by cases hi), rfl, rfl⟩
theorem funSX_ok {P : Program} {f : FuncId} {avs : List AV} {hp : List (Nat × Obj')} {nx : Nat} {v : Value} {fn : Func} {c : Code} {nt : Nat} (hf : P.funcs[f]? = some fn) (hb : fn.body = some c) (hnt : fn.ntmps = nt) (hn : avs.length ≤ nt)
  (h : ∀ Z w0 cap dk tm, AW ⟨P, Z, w0, cap, nt, none, fun ps st' => ps = [{ v := v, recovered := false }] ∧ AL.get st'.hp nx = some (.kept (pins hp) tm) ∧ ∀ p ∈ hp, AL.get st'.hp p.1 = some p.2, none, dk, true⟩ c (fun _ _ => False)
   ⟨initV 0 avs, (nx, .kept (pins hp) tm) :: hp, nx + 1⟩) : FunSX P f avs hp nx v := by
 intro Z w0 cap nt0 pan hpan
 refine callF_to (rs := fn.results.toList) hf hb hnt rfl hn fun hcl tm Ds => ?_
 intro σ a w hr
 have hh := h Z w0 cap (Ds ++ []) tm σ a w ⟨hr.heap, hr.fr, hr.lt, hr.df, hr.nt, hr.frm⟩
 refine wpIn_mono hh fun e a' w' hp' => ?_
 rcases hp' with ⟨σ', st', hq, _⟩ | ⟨ps, he, σ', st', hr2, h1, h2, h3⟩
 ·exact hq.elim
 ·exact .inr ⟨ps, he, σ', st', ⟨hr2.heap, hr2.fr, hr2.lt, hr2.df, hr2.nt, hr2.frm⟩, h2, ⟨pins hp, hp, nx⟩, ⟨rfl, hcl, fun id o ho => h3 _ (al_mem ho)⟩, hpan _ _ h1 rfl⟩
section
variable {l : List Oper} {rest : List Oper} {ops : Array Oper} {st : St} {o : Oper} {Q : St → Prop} {recs : List Rec} {f : Operand} {args : Array Operand} {argTypes : Array TypeId} {fid : FuncId} {caps : List CC} {avs avs0 : List AV} {hp : List (Nat × Obj')} {nx : Nat} {r : RR} {v : Value} {fn : Func}
theorem callO_S (ids : List Nat) (hS : FunS K.P fid avs0 hp nx r) (hd : dstOK K o.dst = true) (ho : o.op = .call { callee := .value f, args := args, argTypes := argTypes }) (h1 : (evalA (AL.get st.fr) f).bind fnA = some (fid, caps)) (h2 : mapO (evalA (AL.get st.fr)) args.toList = some avs)
  (h5 : K.P.funcs[fid]? = some fn) (h6 : fn.body.isSome = true) (h7 : fn.name ≠ "runtime.NumGoroutine") (hsh : shutS hp nx avs0 = true) (hO : objsAt (AL.get st.hp) ids hp) (hnd : ids.Nodup) (hlen : nx ≤ ids.length) (ha : avs ++ caps.map capV = avs0.map (renV fun i => ids.getD i 0))
  (h : evOps K ops rest (st.put o.dst (avRR r)) Q) : CallO K ops o rest st Q :=
 callS_ok hd ho fid h1 h2 h5 h6 h7 ((callF_S ids hS hsh hO hnd hlen ha).mono fun _ _ he => by obtain ⟨rfl, rfl⟩ := he; exact h)
theorem callO_SX (ids : List Nat) (hS : FunSX K.P fid avs0 hp nx v) (hd : dstOK K o.dst = true) (ho : o.op = .call { callee := .value f, args := args, argTypes := argTypes }) (h1 : (evalA (AL.get st.fr) f).bind fnA = some (fid, caps)) (h2 : mapO (evalA (AL.get st.fr)) args.toList = some avs)
  (h5 : K.P.funcs[fid]? = some fn) (h6 : fn.body.isSome = true) (h7 : fn.name ≠ "runtime.NumGoroutine") (hsh : shutS hp nx avs0 = true) (hO : objsAt (AL.get st.hp) ids hp) (hnd : ids.Nodup) (hlen : nx ≤ ids.length) (ha : avs ++ caps.map capV = avs0.map (renV fun i => ids.getD i 0))
  (hpan : K.pan [{ v := v, recovered := false }] st) : CallO K ops o rest st Q :=
 callS_ok hd ho fid h1 h2 h5 h6 h7 (callF_SX ids hS hsh hO hnd hlen ha hpan)
theorem evalA_keep {fr : List (Nat × AV)} (hk : ∀ t, keepT l o t = true → AL.get fr t = AL.get st.fr t) {x : Operand} (hx : x ∈ o.op.operands.toList) : evalA (AL.get fr) x = evalA (AL.get st.fr) x := by
 cases x with
 | tmp t =>
  simp only [evalA]
  refine hk t ?_
  unfold keepT
  simp only [Bool.or_eq_true, List.contains_eq_mem, decide_eq_true_eq]
  exact .inl (mem_looks hx)
 | _ => rfl
theorem callee_keep {fr : List (Nat × AV)} (hk : ∀ t, keepT l o t = true → AL.get fr t = AL.get st.fr t) (ho : o.op = .call { callee := .value f, args := args, argTypes := argTypes }) (h1 : (evalA (AL.get st.fr) f).bind fnA = some (fid, caps)) (h2 : mapO (evalA (AL.get st.fr)) args.toList = some avs) :
  (evalA (AL.get fr) f).bind fnA = some (fid, caps) ∧ mapO (evalA (AL.get fr)) args.toList = some avs := by
 refine ⟨by rw [evalA_keep hk (by simp [ho, Op.operands, Call.operands])]; exact h1, ?_⟩
 rw [← h2, ← mapM_eq, ← mapM_eq]
 exact mapM_local fun x hx => evalA_keep hk (by simp only [ho, Op.operands, Call.operands, Array.toList_append, List.mem_append]; exact .inr hx)
theorem turns_of (ch : List Nat) (av : AV) (hp2 : List (Nat × Obj')) (nx2 : Nat) (hd : dstOK K o.dst = true) (ho : o.op = .call { callee := .value f, args := args, argTypes := argTypes }) (h1 : (evalA (AL.get st.fr) f).bind fnA = some (fid, caps)) (h2 : mapO (evalA (AL.get st.fr)) args.toList = some avs)
  (h5 : K.P.funcs[fid]? = some fn) (h6 : fn.body.isSome = true) (h7 : fn.name ≠ "runtime.NumGoroutine") (hc : ∀ id, id ∉ ch → AL.get hp2 id = AL.get st.hp id) (hn : st.nx ≤ nx2) (hlt : ∀ id ∈ ch, id < nx2)
  (h : ∀ fr, (∀ t, keepT l o t = true → AL.get fr t = AL.get st.fr t) → CallF K fid (avs ++ caps.map capV) ⟨fr, st.hp, st.nx⟩ fun st' av' => st' = ⟨fr, hp2, nx2⟩ ∧ av' = av) : TurnsA K l st o ch av hp2 nx2 := by
 refine ⟨hc, hn, hlt, fun fr hk => ?_⟩
 obtain ⟨g1, g2⟩ := callee_keep hk ho h1 h2
 exact callS_of hd ho fid g1 g2 h5 h6 h7 ((h fr hk).mono fun _ _ he => by obtain ⟨rfl, rfl⟩ := he; rfl)
theorem callD_R (ids : List Nat) (hS : FunS K.P fid avs0 hp nx r) (hd : dstOK K o.dst = true) (ho : o.op = .call { callee := .value f, args := args, argTypes := argTypes }) (h1 : (evalA (AL.get st.fr) f).bind fnA = some (fid, caps)) (h2 : mapO (evalA (AL.get st.fr)) args.toList = some avs)
  (h5 : K.P.funcs[fid]? = some fn) (h6 : fn.body.isSome = true) (h7 : fn.name ≠ "runtime.NumGoroutine") (hsh : shutS hp nx avs0 = true) (hO : objsAt (AL.get st.hp) ids hp) (hnd : ids.Nodup) (hlen : nx ≤ ids.length) (ha : avs ++ caps.map capV = avs0.map (renV fun i => ids.getD i 0))
  (h : evDraw K l rest (st.put o.dst (avRR r)) (recs ++ [(some ids, [])]) Q) : CallD K l o rest st recs Q := by
 refine callD_read hd (by rw [ho]; rfl) ids (avRR r) (fun fr hp' nx' hk hids => ?_) h
 obtain ⟨g1, g2⟩ := callee_keep hk ho h1 h2
 have hO2 := objsAt_mem hO
 refine callS_of hd ho fid g1 g2 h5 h6 h7 ((callF_lift (st := ⟨fr, hp', nx'⟩) ids hS hsh (fun p hp1 => ?_) (fun p hp q hq h => ids_inj hnd (Nat.lt_of_lt_of_le (shutS_lt hsh p hp) hlen) (Nat.lt_of_lt_of_le (shutS_lt hsh q hq) hlen) h) ha).mono fun _ _ he => by obtain ⟨rfl, rfl⟩ := he; rfl)
 have hlt := Nat.lt_of_lt_of_le (shutS_lt hsh p hp1) hlen
 rw [hids _ (by rw [List.getD_eq_getElem?_getD, List.getElem?_eq_getElem hlt]; exact List.getElem_mem hlt)]
 exact hO2 p hp1
end
end Go.Pv
namespace Go.Pv
open Go Go.RowKit Go.Sh
end Go.Pv
