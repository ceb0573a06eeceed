/- Texts of the proof, joined. -/
import Derived.Test.YthedkfiebmnghaaGreatKba1
import Derived.Laws.AppendOwn
import Derived.Laws.OwnMore
import Derived.TacticsIn
import Derived.RangeFuncCalls
import Derived.Defers
import Derived.OrdersIn
import Derived.RangeFuncLeaves
import Derived.RangeFuncRecord
set_option linter.all false
namespace Go.Pv
open Go Go.RowKit Go.Sh
inductive PV where
  | v (x : Value)
  | sl (rows : List (List PV))
  | ptr (row : List PV)
  | any
  deriving Inhabited
abbrev Zn := Nat → Nat → Prop
inductive RelP (Z : Zn) (w : World) : PV → Value → Prop
  | v (x : Value) (h : x.oneCell' = true) : RelP Z w (.v x) x
  | sl (rows : List (List PV)) (k : Nat) (ao : Option Addr) (cap b off : Nat) (us : Nat → Nat → Value)
      (hm : rows.length ≤ cap ∧ rows.length ≤ 9223372036854775807)
      (hk : ∀ (i : Nat) (row : List PV), rows[i]? = some row → row.length = k)
      (hao : rows ≠ [] → ao = some ⟨b, off, none⟩)
      (hc : ∀ (i : Nat) (row : List PV) (j : Nat) (c : PV), rows[i]? = some row → row[j]? = some c → w.cell? ⟨b, off + i * k + j, none⟩ = some (us i j))
      (hz : ∀ (i : Nat) (row : List PV) (j : Nat) (c : PV), rows[i]? = some row → row[j]? = some c → Z b (off + i * k + j))
      (hr : ∀ (i : Nat) (row : List PV) (j : Nat) (c : PV), rows[i]? = some row → row[j]? = some c → RelP Z w c (us i j)) :
      RelP Z w (.sl rows) (.slice ao rows.length cap)
  | ptr (row : List PV) (b off : Nat) (us : Nat → Value) (hc : ∀ (j : Nat) (c : PV), row[j]? = some c → w.cell? ⟨b, off + j, none⟩ = some (us j)) (hz : ∀ (j : Nat) (c : PV), row[j]? = some c → Z b (off + j))
      (hr : ∀ (j : Nat) (c : PV), row[j]? = some c → RelP Z w c (us j)) : RelP Z w (.ptr row) (.pointer (some ⟨b, off, none⟩))
  | any (x : Value) (h : x.oneCell' = true) : RelP Z w .any x
theorem RelP.mono {Z Z' : Zn} {w w' : World} (h : ∀ (b c : Nat) (u : Value), Z b c → w.cell? ⟨b, c, none⟩ = some u → Z' b c ∧ w'.cell? ⟨b, c, none⟩ = some u) {x : PV} {u : Value} (hx : RelP Z w x u) : RelP Z' w' x u := by
  induction hx with
  | v x h1 => exact .v x h1
  | sl rows k ao cap b off us hm hk hao hc hz hr ih =>
    exact .sl rows k ao cap b off us hm hk hao (fun i row j c h1 h2 => (h _ _ _ (hz i row j c h1 h2) (hc i row j c h1 h2)).2)
      (fun i row j c h1 h2 => (h _ _ _ (hz i row j c h1 h2) (hc i row j c h1 h2)).1) ih
  | ptr row b off us hc hz hr ih => exact .ptr row b off us (fun j c h1 => (h _ _ _ (hz j c h1) (hc j c h1)).2) (fun j c h1 => (h _ _ _ (hz j c h1) (hc j c h1)).1) ih
  | any x h1 => exact .any x h1
inductive CC where
  | box (b : Nat)
  | p (x : PV)
  deriving Inhabited
inductive RV where
  | one (x : PV)
  | agg (cs : List PV)
  deriving Inhabited
inductive AC where
  | p (x : PV)
  | own (t n : Nat)
  | nil
  | box (b o : Nat)
  | ix (row : List PV) (o : Nat)
  | oix (t i o : Nat)
  | fn (f : FuncId) (caps : List CC)
  | any
  | memo (m : Nat)
  | yld (l : Nat)
  | bfn (f : FuncId) (first : List RV)
  | ifc (T : TypeId) (b : Nat)
  | bfx (f : FuncId) (b : Nat)
  | raw (l : Nat)
  deriving Inhabited
inductive AV where
  | one (c : AC)
  | agg (cs : List AC)
  | tup (rs : List RV)
  | any
  | und
  deriving Inhabited
def AL.get {α : Type} : List (Nat × α) → Nat → Option α
  | [], _ => none
  | (k, v) :: r, t => if t = k then some v else AL.get r t
def AL.set {α : Type} (l : List (Nat × α)) (t : Nat) (x : α) : List (Nat × α) := (t, x) :: l
inductive Obj' where
  | box (cs : List AC)
  | arr (E : TypeId) (k : Nat) (rows : List (List PV)) (sh : Bool)
  | kept (fr : List (Nat × AV)) (tm : Nat → Value)
  | memo (P : Program) (k : TypeId) (I : MI)
  | lp (b : Nat) (r : Loop)
  | raw (b : Nat) (o : Obj)
  deriving Inhabited
def locBlk : Value → Option Nat
  | .pointer (some a) => some a.block
  | .slice (some a) _ _ => some a.block
  | .map (some m) => some m
  | .func (.yield l) _ _ => some l
  | _ => none
def locRaw : Obj → Nat → Option Value
  | .map _ _, b => some (.map (some b))
  | .mapIter _ _ _ _, b => some (.pointer (some ⟨b, 0, none⟩))
  | _, _ => none
structure Sit where
  Z : Zn
  base : Nat
  cap : Nat → Prop
  σ : Nat → Option Value
  h : Nat → Option Obj'
  w : World
def Sit.Safe (s : Sit) (b c : Nat) : Prop :=
  (s.Z b c ∨ s.base ≤ b) ∧ ∀ id l, s.σ id = some l → locBlk l = some b → ∃ E k rows, s.h id = some (.arr E k rows true) ∧ c < rows.length * k
def RelCC (s : Sit) : CC → Value → Prop
  | .box b, u => ∃ cs blk, s.h b = some (.box cs) ∧ s.σ b = some (.pointer (some ⟨blk, 0, none⟩)) ∧ u = .pointer (some ⟨blk, 0, none⟩)
  | .p x, u => RelP s.Safe s.w x u
def RelR (Z : Zn) (w : World) : RV → Value → Prop
  | .one x, u => RelP Z w x u
  | .agg cs, u => ∃ us : Array Value, u = .agg us ∧ us.size = cs.length ∧ ∀ (j : Nat) (c : PV), cs[j]? = some c → ∃ x, us[j]? = some x ∧ RelP Z w c x
def RelRs (Z : Zn) (w : World) (rs : List RV) (us : Array Value) : Prop :=
  us.size = rs.length ∧ ∀ (j : Nat) (r : RV), rs[j]? = some r → ∃ x, us[j]? = some x ∧ RelR Z w r x
def RelC (s : Sit) : AC → Value → Prop
  | .p x, u => RelP s.Safe s.w x u
  | .own t n, u => ∃ E k rows sh l, s.h t = some (.arr E k rows sh) ∧ s.σ t = some l ∧ n ≤ rows.length ∧
      (n = rows.length → u = l) ∧ (n < rows.length → (sh = true ∨ n = 0) ∧ RelP s.Safe s.w (.sl (rows.take n)) u)
  | .nil, u => u = .slice none 0 0
  | .box b o, u => ∃ cs blk, s.h b = some (.box cs) ∧ s.σ b = some (.pointer (some ⟨blk, 0, none⟩)) ∧ u = .pointer (some ⟨blk, o, none⟩)
  | .ix row o, u => ∃ (b off : Nat) (us : Nat → Value), u = .pointer (some ⟨b, off + o, none⟩) ∧
      ∀ (j : Nat) (c : PV), row[j]? = some c → s.Safe b (off + j) ∧ s.w.cell? ⟨b, off + j, none⟩ = some (us j) ∧ RelP s.Safe s.w c (us j)
  | .oix t i o, u => ∃ E k rows sh l, s.h t = some (.arr E k rows sh) ∧ s.σ t = some l ∧ i < rows.length ∧ u.oneCell' = true ∧
      (sh = false → ∃ blk, locBlk l = some blk ∧ u = .pointer (some ⟨blk, i * k + o, none⟩))
  | .fn f caps, u => ∃ us : Array Value, u = .func (.func f) #[] us ∧ us.size = caps.length ∧ ∀ (j : Nat) (c : CC), caps[j]? = some c → ∃ x, us[j]? = some x ∧ RelCC s c x
  | .any, u => u.oneCell' = true
  | .memo m, u => ∃ P k I b, s.h m = some (.memo P k I) ∧ s.σ m = some (.map (some b)) ∧ u = .map (some b)
  | .yld l, u => ∃ r b, s.h l = some (.lp b r) ∧ s.σ l = some (.func (.yield b) #[] #[]) ∧ u = .func (.yield b) #[] #[]
  | .raw l, u => ∃ b o, s.h l = some (.raw b o) ∧ s.σ l = some u ∧ u.oneCell' = true
  | .bfn f first, u => ∃ us : Array Value, u = .func (.func f) us #[] ∧ RelRs s.Safe s.w first us
  | .ifc T b, u => ∃ cs blk, s.h b = some (.box cs) ∧ s.σ b = some (.pointer (some ⟨blk, 0, none⟩)) ∧ u = .iface T (.pointer (some ⟨blk, 0, none⟩))
  | .bfx f b, u => ∃ cs blk, s.h b = some (.box cs) ∧ s.σ b = some (.pointer (some ⟨blk, 0, none⟩)) ∧ u = .func (.func f) #[.pointer (some ⟨blk, 0, none⟩)] #[]
def RelCs (s : Sit) (cs : List AC) (us : Array Value) : Prop :=
  us.size = cs.length ∧ ∀ (j : Nat) (c : AC), cs[j]? = some c → ∃ x, us[j]? = some x ∧ RelC s c x
def RelV (s : Sit) : AV → Value → Prop
  | .one c, u => RelC s c u
  | .agg cs, u => ∃ us, u = .agg us ∧ RelCs s cs us
  | .tup rs, u => ∃ us, u = .tuple us ∧ RelRs s.Safe s.w rs us
  | .any, _ => True
  | .und, u => u = undef
def RelO (s : Sit) (id : Nat) : Obj' → Prop
  | .box cs => ∃ blk vs ty, s.σ id = some (.pointer (some ⟨blk, 0, none⟩)) ∧ s.w.heap[blk]? = some (.cells vs ty (0, 0)) ∧ RelCs s cs vs
  | .arr E k rows _ => ∃ val xs, s.σ id = some val ∧ s.w.ownsRow s.base E k val rows.length xs ∧ (∀ (i : Nat) (row : List PV), rows[i]? = some row → row.length = k) ∧
      ∀ (i : Nat) (row : List PV) (j : Nat) (c : PV), rows[i]? = some row → row[j]? = some c → ∃ u, xs[i * k + j]? = some u ∧ RelP s.Safe s.w c u
  | .kept fr tm => s.σ id = none ∧ ∀ t av, AL.get fr t = some av → RelV s av (tm t)
  | .memo P k I => ∃ b, s.σ id = some (.map (some b)) ∧ MapInv P k s.w b I
  | .lp b r => s.σ id = some (.func (.yield b) #[] #[]) ∧ s.w.heap[b]? = some (.loop r)
  | .raw b o => ∃ l, s.σ id = some l ∧ locRaw o b = some l ∧ s.w.heap[b]? = some o
structure Heap0 (s : Sit) : Prop where
  objs : ∀ id o, s.h id = some o → RelO s id o
  dom : ∀ id l, s.σ id = some l → ∃ o, s.h id = some o
  inj : ∀ id id' l l' b, s.σ id = some l → s.σ id' = some l' → locBlk l = some b → locBlk l' = some b → id = id'
  lt : ∀ id l b, s.σ id = some l → locBlk l = some b → b < s.w.heap.size ∧ (s.base ≤ b ∨ s.cap b)
structure Ext (s s' : Sit) : Prop where
  cell : ∀ (b c : Nat) (u : Value), s.Safe b c → s.w.cell? ⟨b, c, none⟩ = some u → s'.w.cell? ⟨b, c, none⟩ = some u
  safe : ∀ b c, b < s.w.heap.size → s.Safe b c → s'.Safe b c
  box : ∀ id cs l, s.h id = some (.box cs) → s.σ id = some l → s'.σ id = some l ∧ ∃ cs', s'.h id = some (.box cs')
  arr : ∀ id E k rows sh l, s.h id = some (.arr E k rows sh) → s.σ id = some l → ∃ rows' sh' l', s'.h id = some (.arr E k rows' sh') ∧ s'.σ id = some l' ∧
    ((rows' = rows ∧ l' = l ∧ (sh = true → sh' = true)) ∨ ((∃ x, rows' = rows ++ x ∧ (x = [] → l' = l)) ∧ (rows = [] ∨ sh' = true) ∧ (sh = true → sh' = true) ∧ RelP s'.Safe s'.w (.sl rows) l) ∨
     (sh = false ∧ sh' = false ∧ l' = l ∧ rows'.length = rows.length))
  memo : ∀ id P k I l, s.h id = some (.memo P k I) → s.σ id = some l → s'.σ id = some l ∧ ∃ I', s'.h id = some (.memo P k I')
  lp : ∀ id b r l, s.h id = some (.lp b r) → s.σ id = some l → s'.σ id = some l ∧ ∃ r', s'.h id = some (.lp b r')
  raw : ∀ id b o l, s.h id = some (.raw b o) → s.σ id = some l → s'.σ id = some l ∧ ∃ o', s'.h id = some (.raw b o')
theorem RelR.mono {Z Z' : Zn} {w w' : World} (h : ∀ (b c : Nat) (u : Value), Z b c → w.cell? ⟨b, c, none⟩ = some u → Z' b c ∧ w'.cell? ⟨b, c, none⟩ = some u) {x : RV} {u : Value} (hx : RelR Z w x u) : RelR Z' w' x u := by
  cases x with
  | one x => exact RelP.mono h hx
  | agg cs =>
    obtain ⟨us, rfl, hs, hx⟩ := hx
    exact ⟨us, rfl, hs, fun j c hj => let ⟨x, h1, h2⟩ := hx j c hj; ⟨x, h1, h2.mono h⟩⟩
theorem RelRs.mono {Z Z' : Zn} {w w' : World} (h : ∀ (b c : Nat) (u : Value), Z b c → w.cell? ⟨b, c, none⟩ = some u → Z' b c ∧ w'.cell? ⟨b, c, none⟩ = some u) {x : List RV} {u : Array Value} (hx : RelRs Z w x u) : RelRs Z' w' x u :=
  ⟨hx.1, fun j c hj => let ⟨x, h1, h2⟩ := hx.2 j c hj; ⟨x, h1, h2.mono h⟩⟩
theorem Ext.relP {s s' : Sit} (he : Ext s s') {x : PV} {u : Value} (h : RelP s.Safe s.w x u) : RelP s'.Safe s'.w x u :=
  h.mono fun _ _ _ hz hc => ⟨he.safe _ _ (World.block_lt_of_cell? _ _ hc) hz, he.cell _ _ _ hz hc⟩
theorem Ext.relCC {s s' : Sit} (he : Ext s s') {c : CC} {u : Value} (h : RelCC s c u) : RelCC s' c u := by
  cases c with
  | box b =>
    obtain ⟨cs, blk, h1, h2, rfl⟩ := h
    obtain ⟨h3, cs', h4⟩ := he.box _ _ _ h1 h2
    exact ⟨cs', blk, h4, h3, rfl⟩
  | p x => exact he.relP h
theorem Ext.relC {s s' : Sit} (he : Ext s s') {c : AC} {u : Value} (h : RelC s c u) : RelC s' c u := by
  cases c with
  | p x => exact he.relP h
  | own t n =>
    obtain ⟨E, k, rows, sh, l, h1, h2, hn, h3, h7⟩ := h
    obtain ⟨rows', sh', l', h4, h5, h6⟩ := he.arr _ _ _ _ _ _ h1 h2
    rcases h6 with ⟨rfl, rfl, hs⟩ | ⟨⟨x, rfl, hx⟩, hs, hs2, hp⟩ | ⟨rfl, rfl, rfl, hl⟩
    · exact ⟨E, k, rows', sh', l', h4, h5, hn, h3, fun hlt => ⟨(h7 hlt).1.imp hs id, he.relP (h7 hlt).2⟩⟩
    · refine ⟨E, k, _, sh', l', h4, h5, by simp; omega, fun hn' => ?_, fun hlt => ?_⟩
      · have hx0 : x = [] := List.eq_nil_of_length_eq_zero (by simp at hn'; omega)
        rw [hx hx0]; exact h3 (by simp [hx0] at hn'; exact hn')
      · rw [List.take_append_of_le_length hn]
        by_cases hc : n = rows.length
        · refine ⟨hs.symm.imp id fun e => by simp [e] at hc; exact hc, ?_⟩
          rw [h3 hc, hc, List.take_length]; exact hp
        · obtain ⟨h8, h9⟩ := h7 (by omega)
          exact ⟨h8.imp hs2 id, he.relP h9⟩
    · refine ⟨E, k, rows', false, l', h4, h5, by omega, fun hn' => h3 (by omega), fun hlt => ?_⟩
      obtain ⟨h8, h9⟩ := h7 (by omega)
      rcases h8 with h8 | rfl
      · cases h8
      · refine ⟨.inr rfl, ?_⟩
        rw [List.take_zero] at h9 ⊢; exact he.relP h9
  | nil => exact h
  | box b o =>
    obtain ⟨cs, blk, h1, h2, rfl⟩ := h
    obtain ⟨h3, cs', h4⟩ := he.box _ _ _ h1 h2
    exact ⟨cs', blk, h4, h3, rfl⟩
  | ix row o =>
    obtain ⟨b, off, us, rfl, h⟩ := h
    refine ⟨b, off, us, rfl, fun j c hj => ?_⟩
    obtain ⟨h1, h2, h3⟩ := h j c hj
    exact ⟨he.safe _ _ (World.block_lt_of_cell? _ _ h2) h1, he.cell _ _ _ h1 h2, he.relP h3⟩
  | oix t i o =>
    obtain ⟨E, k, rows, sh, l, h1, h2, hn, h0, h3⟩ := h
    obtain ⟨rows', sh', l', h4, h5, h6⟩ := he.arr _ _ _ _ _ _ h1 h2
    rcases h6 with ⟨rfl, rfl, hs⟩ | ⟨⟨x, rfl, _⟩, hs, _, hp⟩ | ⟨rfl, rfl, rfl, hl⟩
    · refine ⟨E, k, rows', sh', l', h4, h5, hn, h0, fun hf => h3 ?_⟩
      cases sh with
      | false => rfl
      | true => rw [hs rfl] at hf; cases hf
    · refine ⟨E, k, _, sh', l', h4, h5, by simp; omega, h0, fun hf => ?_⟩
      rcases hs with rfl | hs
      · simp at hn
      · rw [hs] at hf; cases hf
    · exact ⟨E, k, rows', false, l', h4, h5, by omega, h0, h3⟩
  | fn f caps =>
    obtain ⟨us, rfl, hs, h⟩ := h
    exact ⟨us, rfl, hs, fun j c hj => let ⟨x, hx, hr⟩ := h j c hj; ⟨x, hx, he.relCC hr⟩⟩
  | any => exact h
  | memo m =>
    obtain ⟨P, k, I, b, h1, h2, rfl⟩ := h
    obtain ⟨h3, I', h4⟩ := he.memo _ _ _ _ _ h1 h2
    exact ⟨P, k, I', b, h4, h3, rfl⟩
  | yld l =>
    obtain ⟨r, b, h1, h2, rfl⟩ := h
    obtain ⟨h3, r', h4⟩ := he.lp _ _ _ _ h1 h2
    exact ⟨r', b, h4, h3, rfl⟩
  | raw l =>
    obtain ⟨b, o, h1, h2, hc⟩ := h
    obtain ⟨h3, o', h4⟩ := he.raw _ _ _ _ h1 h2
    exact ⟨b, o', h4, h3, hc⟩
  | bfn f first =>
    obtain ⟨us, rfl, h⟩ := h
    exact ⟨us, rfl, h.mono fun _ _ _ hz hc => ⟨he.safe _ _ (World.block_lt_of_cell? _ _ hc) hz, he.cell _ _ _ hz hc⟩⟩
  | ifc T b =>
    obtain ⟨cs, blk, h1, h2, rfl⟩ := h
    obtain ⟨h3, cs', h4⟩ := he.box _ _ _ h1 h2
    exact ⟨cs', blk, h4, h3, rfl⟩
  | bfx f b =>
    obtain ⟨cs, blk, h1, h2, rfl⟩ := h
    obtain ⟨h3, cs', h4⟩ := he.box _ _ _ h1 h2
    exact ⟨cs', blk, h4, h3, rfl⟩
theorem Ext.relCs {s s' : Sit} (he : Ext s s') {cs : List AC} {us : Array Value} (h : RelCs s cs us) : RelCs s' cs us :=
  ⟨h.1, fun j c hj => let ⟨x, hx, hr⟩ := h.2 j c hj; ⟨x, hx, he.relC hr⟩⟩
theorem Ext.relV {s s' : Sit} (he : Ext s s') {x : AV} {u : Value} (h : RelV s x u) : RelV s' x u := by
  cases x with
  | one c => exact he.relC h
  | agg cs => obtain ⟨us, rfl, h⟩ := h; exact ⟨us, rfl, he.relCs h⟩
  | tup rs =>
    obtain ⟨us, rfl, h⟩ := h
    exact ⟨us, rfl, h.mono fun _ _ _ hz hc => ⟨he.safe _ _ (World.block_lt_of_cell? _ _ hc) hz, he.cell _ _ _ hz hc⟩⟩
  | any => trivial
  | und => exact h
theorem Ext.refl (s : Sit) : Ext s s :=
  ⟨fun _ _ _ _ h => h, fun _ _ _ h => h, fun _ cs _ h1 h2 => ⟨h2, cs, h1⟩, fun _ _ _ rows sh l h1 h2 => ⟨rows, sh, l, h1, h2, .inl ⟨rfl, rfl, id⟩⟩, fun _ _ _ I _ h1 h2 => ⟨h2, I, h1⟩, fun _ _ r _ h1 h2 => ⟨h2, r, h1⟩, fun _ _ r _ h1 h2 => ⟨h2, r, h1⟩⟩
theorem RelO.ext {s s' : Sit} (he : Ext s s') (hb : s.base = s'.base) {id : Nat} {o : Obj'} (h : RelO s id o) (hσ : s'.σ id = s.σ id) (hblk : ∀ l b, s.σ id = some l → locBlk l = some b → s'.w.heap[b]? = s.w.heap[b]?) : RelO s' id o := by
  cases o with
  | box cs =>
    obtain ⟨blk, vs, ty, h1, h2, h3⟩ := h
    exact ⟨blk, vs, ty, hσ.trans h1, (hblk _ blk h1 rfl).trans h2, he.relCs h3⟩
  | arr E k rows sh =>
    obtain ⟨val, xs, h1, h2, h3, h4⟩ := h
    refine ⟨val, xs, hσ.trans h1, ?_, h3, fun i row j c hi hj => let ⟨u, hu, hr⟩ := h4 i row j c hi hj; ⟨u, hu, he.relP hr⟩⟩
    rw [← hb]
    refine ⟨h2.1, ?_⟩
    rcases h2.2 with hn | ⟨g, cap, cur, rfl, hbg, hg, rest⟩
    · exact .inl hn
    · exact .inr ⟨g, cap, cur, rfl, hbg, (hblk _ g h1 rfl).trans hg, rest⟩
  | kept fr tm => exact ⟨hσ.trans h.1, fun t av ht => he.relV (h.2 t av ht)⟩
  | memo P k I =>
    obtain ⟨b, h1, h2⟩ := h
    exact ⟨b, hσ.trans h1, h2.imp (hblk _ b h1 rfl) (fun _ _ h => h) fun _ _ h => h⟩
  | lp b r =>
    obtain ⟨h1, h2⟩ := h
    exact ⟨hσ.trans h1, (hblk _ b h1 rfl).trans h2⟩
  | raw b o =>
    obtain ⟨l, h1, h2, h3⟩ := h
    have hl : locBlk l = some b := by
      cases o <;> simp [locRaw] at h2 <;> subst h2 <;> rfl
    exact ⟨l, hσ.trans h1, h2, (hblk _ b h1 hl).trans h3⟩
theorem Heap0.cellsAt {s : Sit} (H : Heap0 s) {id : Nat} {l : Value} {b : Nat} (h1 : s.σ id = some l) (h2 : locBlk l = some b) : (∃ cs t fz, s.w.heap[b]? = some (.cells cs t fz)) ∨ (∃ es ck, s.w.heap[b]? = some (.map es ck)) ∨ (∃ r, s.w.heap[b]? = some (.loop r)) ∨ ∃ m a c d, s.w.heap[b]? = some (.mapIter m a c d) := by
  obtain ⟨o, ho⟩ := H.dom id l h1
  have hr := H.objs id o ho
  cases o with
  | box cs =>
    obtain ⟨blk, vs, ty, h3, h4, _⟩ := hr
    rw [h1] at h3; cases h3
    cases h2
    exact .inl ⟨_, _, _, h4⟩
  | arr E k rows sh =>
    obtain ⟨val, xs, h3, h4, _⟩ := hr
    rw [h1] at h3; cases h3
    rcases h4.2 with ⟨rfl, _⟩ | ⟨g, cap, cur, rfl, _, hg, _⟩
    · cases h2
    · cases h2
      exact .inl ⟨_, _, _, hg⟩
  | kept fr tm => rw [hr.1] at h1; cases h1
  | memo P k I =>
    obtain ⟨b', h3, es, ck, h4, _⟩ := hr
    rw [h1] at h3; cases h3
    cases h2
    exact .inr (.inl ⟨es, ck, h4⟩)
  | lp b' r =>
    obtain ⟨h3, h4⟩ := hr
    rw [h1] at h3; cases h3
    cases h2
    exact .inr (.inr (.inl ⟨r, h4⟩))
  | raw b' o =>
    obtain ⟨l', h3, h4, h5⟩ := hr
    rw [h1] at h3; cases h3
    cases o <;> simp [locRaw] at h4 <;> subst h4 <;> cases h2
    · exact .inr (.inl ⟨_, _, h5⟩)
    · exact .inr (.inr (.inr ⟨_, _, _, _, h5⟩))
end Go.Pv
namespace Go.Pv
open Go Go.RowKit Go.Sh
def upd {α : Type} (f : Nat → Option α) (i : Nat) (x : α) : Nat → Option α := fun j => if j = i then some x else f j
theorem upd_same {α : Type} (f : Nat → Option α) (i : Nat) (x : α) : upd f i x i = some x := by simp [upd]
theorem upd_other {α : Type} (f : Nat → Option α) {i j : Nat} (x : α) (h : j ≠ i) : upd f i x j = f j := by simp [upd, h]
def Sit.put (s : Sit) (id : Nat) (o' : Obj') (l' : Value) (w' : World) : Sit := { s with σ := upd s.σ id l', h := upd s.h id o', w := w' }
structure Turn (s : Sit) (id : Nat) (o' : Obj') (l' : Value) (w' : World) : Prop where
  fr : ∀ k, k < s.w.heap.size → (∀ l, s.σ id = some l → locBlk l ≠ some k) → w'.heap[k]? = s.w.heap[k]?
  size : s.w.heap.size ≤ w'.heap.size
  loc : ∀ b, locBlk l' = some b → b < w'.heap.size ∧ (s.base ≤ b ∨ s.cap b) ∧ ((∃ l, s.σ id = some l ∧ locBlk l = some b) ∨ s.w.heap.size ≤ b)
  keep : ∀ l b, s.σ id = some l → locBlk l = some b → ∀ E k rows, s.h id = some (.arr E k rows true) → (∀ c u, c < rows.length * k → s.w.cell? ⟨b, c, none⟩ = some u → w'.cell? ⟨b, c, none⟩ = some u) ∧ ∃ rows', o' = .arr E k rows' true ∧ rows.length ≤ rows'.length
theorem Turn.cell {s : Sit} {id : Nat} {o' : Obj'} {l' : Value} {w' : World} (h : Turn s id o' l' w') (b c : Nat) (u : Value) (hs : s.Safe b c) (hc : s.w.cell? ⟨b, c, none⟩ = some u) : w'.cell? ⟨b, c, none⟩ = some u := by
  have hb := World.block_lt_of_cell? _ _ hc
  by_cases hid : ∃ l, s.σ id = some l ∧ locBlk l = some b
  · obtain ⟨l, h1, h2⟩ := hid
    obtain ⟨E, k, rows, h3, h4⟩ := hs.2 id l h1 h2
    exact (h.keep l b h1 h2 E k rows h3).1 c u h4 hc
  · rw [World.cell?_of_block (h.fr b hb fun l hl hk => hid ⟨l, hl, hk⟩)]; exact hc
theorem Turn.safe {s : Sit} {id : Nat} {o' : Obj'} {l' : Value} {w' : World} (h : Turn s id o' l' w') (b c : Nat) (hb : b < s.w.heap.size) (hs : s.Safe b c) : (s.put id o' l' w').Safe b c := by
  refine ⟨hs.1, fun i l hi hl => ?_⟩
  by_cases he : i = id
  · subst he
    simp only [Sit.put, upd_same, Option.some.injEq] at hi
    subst hi
    obtain ⟨_, _, h3⟩ := h.loc b hl
    rcases h3 with ⟨l0, h3, h4⟩ | h3
    · obtain ⟨E, k, rows, h5, h6⟩ := hs.2 i l0 h3 h4
      obtain ⟨_, rows', rfl, h7⟩ := h.keep l0 b h3 h4 E k rows h5
      exact ⟨E, k, rows', by simp [Sit.put, upd_same], Nat.lt_of_lt_of_le h6 (Nat.mul_le_mul_right _ h7)⟩
    · omega
  · simp only [Sit.put, upd_other _ _ he] at hi ⊢
    exact hs.2 i l hi hl
theorem Turn.relP {s : Sit} {id : Nat} {o' : Obj'} {l' : Value} {w' : World} (h : Turn s id o' l' w') {x : PV} {u : Value} (hx : RelP s.Safe s.w x u) : RelP (s.put id o' l' w').Safe w' x u :=
  hx.mono fun _ _ _ hz hc => ⟨h.safe _ _ (World.block_lt_of_cell? _ _ hc) hz, h.cell _ _ _ hz hc⟩
theorem Turn.ext {s : Sit} {id : Nat} {o' : Obj'} {l' : Value} {w' : World} (h : Turn s id o' l' w')
    (hbox : ∀ cs l, s.h id = some (.box cs) → s.σ id = some l → l' = l ∧ ∃ cs', o' = .box cs')
    (harr : ∀ E k rows sh l, s.h id = some (.arr E k rows sh) → s.σ id = some l → ∃ rows' sh', o' = .arr E k rows' sh' ∧
      ((rows' = rows ∧ l' = l ∧ (sh = true → sh' = true)) ∨ ((∃ x, rows' = rows ++ x ∧ (x = [] → l' = l)) ∧ (rows = [] ∨ sh' = true) ∧ (sh = true → sh' = true) ∧ RelP (s.put id o' l' w').Safe w' (.sl rows) l) ∨
       (sh = false ∧ sh' = false ∧ l' = l ∧ rows'.length = rows.length)))
    (hmemo : ∀ P k I l, s.h id = some (.memo P k I) → s.σ id = some l → l' = l ∧ ∃ I', o' = .memo P k I' := by intro _ _ _ _ h; simp_all)
    (hlp : ∀ b r l, s.h id = some (.lp b r) → s.σ id = some l → l' = l ∧ ∃ r', o' = .lp b r' := by intro _ _ _ h; simp_all)
    (hraw : ∀ b o l, s.h id = some (.raw b o) → s.σ id = some l → l' = l ∧ ∃ o1, o' = .raw b o1 := by intro _ _ _ h; simp_all) : Ext s (s.put id o' l' w') := by
  refine ⟨h.cell, h.safe, fun i cs l hi hl => ?_, fun i E k rows sh l hi hl => ?_, fun i P k I l hi hl => ?_, fun i b r l hi hl => ?_, fun i b o l hi hl => ?_⟩
  rotate_left 4
  · by_cases he : i = id
    · subst he
      obtain ⟨rfl, r', rfl⟩ := hraw b o l hi hl
      exact ⟨by simp [Sit.put, upd_same], r', by simp [Sit.put, upd_same]⟩
    · exact ⟨by simp [Sit.put, upd_other _ _ he]; exact hl, o, by simp [Sit.put, upd_other _ _ he]; exact hi⟩
  rotate_left 3
  · by_cases he : i = id
    · subst he
      obtain ⟨rfl, r', rfl⟩ := hlp b r l hi hl
      exact ⟨by simp [Sit.put, upd_same], r', by simp [Sit.put, upd_same]⟩
    · exact ⟨by simp only [Sit.put, upd_other _ _ he]; exact hl, r, by simp only [Sit.put, upd_other _ _ he]; exact hi⟩
  rotate_left 2
  · by_cases he : i = id
    · subst he
      obtain ⟨rfl, I', rfl⟩ := hmemo P k I l hi hl
      exact ⟨by simp [Sit.put, upd_same], I', by simp [Sit.put, upd_same]⟩
    · exact ⟨by simp only [Sit.put, upd_other _ _ he]; exact hl, I, by simp only [Sit.put, upd_other _ _ he]; exact hi⟩
  · by_cases he : i = id
    · subst he
      obtain ⟨rfl, cs', rfl⟩ := hbox cs l hi hl
      exact ⟨by simp [Sit.put, upd_same], cs', by simp [Sit.put, upd_same]⟩
    · exact ⟨by simp only [Sit.put, upd_other _ _ he]; exact hl, cs, by simp only [Sit.put, upd_other _ _ he]; exact hi⟩
  · by_cases he : i = id
    · subst he
      obtain ⟨rows', sh', rfl, h3⟩ := harr E k rows sh l hi hl
      exact ⟨rows', sh', l', by simp [Sit.put, upd_same], by simp [Sit.put, upd_same], h3⟩
    · exact ⟨rows, sh, l, by simp only [Sit.put, upd_other _ _ he]; exact hi, by simp only [Sit.put, upd_other _ _ he]; exact hl, .inl ⟨rfl, rfl, fun h => h⟩⟩
theorem Turn.heap {s : Sit} {id : Nat} {o' : Obj'} {l' : Value} {w' : World} (h : Turn s id o' l' w') (H : Heap0 s) (he : Ext s (s.put id o' l' w')) (ho : RelO (s.put id o' l' w') id o') : Heap0 (s.put id o' l' w') := by
  refine ⟨fun i o hi => ?_, fun i l hi => ?_, fun i i' l l2 b hi hi' hb hb' => ?_, fun i l b hi hb => ?_⟩
  · by_cases hid : i = id
    · subst hid
      have : o = o' := by simpa [Sit.put, upd_same] using hi.symm
      subst this; exact ho
    · have hi0 : s.h i = some o := by simpa only [Sit.put, upd_other _ _ hid] using hi
      refine (H.objs i o hi0).ext he rfl (by simp only [Sit.put, upd_other _ _ hid]) fun l b hl hb => ?_
      exact h.fr b (H.lt i l b hl hb).1 fun l0 hl0 hb0 => hid (H.inj i id l l0 b hl hl0 hb hb0)
  · by_cases hid : i = id
    · exact ⟨o', by simp [Sit.put, upd, hid]⟩
    · obtain ⟨o, ho⟩ := H.dom i l (by simpa only [Sit.put, upd_other _ _ hid] using hi)
      exact ⟨o, by simpa only [Sit.put, upd_other _ _ hid] using ho⟩
  · by_cases hid : i = id <;> by_cases hid' : i' = id
    · rw [hid, hid']
    · exfalso
      have : l = l' := by simpa [Sit.put, upd, hid] using hi.symm
      subst this
      have hi2 : s.σ i' = some l2 := by simpa only [Sit.put, upd_other _ _ hid'] using hi'
      obtain ⟨_, _, h3⟩ := h.loc b hb
      rcases h3 with ⟨l0, h3, h4⟩ | h3
      · exact hid' (H.inj i' id l2 l0 b hi2 h3 hb' h4)
      · have := (H.lt i' l2 b hi2 hb').1; omega
    · exfalso
      have : l2 = l' := by simpa [Sit.put, upd, hid'] using hi'.symm
      subst this
      have hi2 : s.σ i = some l := by simpa only [Sit.put, upd_other _ _ hid] using hi
      obtain ⟨_, _, h3⟩ := h.loc b hb'
      rcases h3 with ⟨l0, h3, h4⟩ | h3
      · exact hid (H.inj i id l l0 b hi2 h3 hb h4)
      · have := (H.lt i l b hi2 hb).1; omega
    · exact H.inj i i' l l2 b (by simpa only [Sit.put, upd_other _ _ hid] using hi) (by simpa only [Sit.put, upd_other _ _ hid'] using hi') hb hb'
  · by_cases hid : i = id
    · have : l = l' := by simpa [Sit.put, upd, hid] using hi.symm
      subst this
      obtain ⟨h1, h2, _⟩ := h.loc b hb
      exact ⟨h1, h2⟩
    · obtain ⟨h1, h2⟩ := H.lt i l b (by simpa only [Sit.put, upd_other _ _ hid] using hi) hb
      exact ⟨Nat.lt_of_lt_of_le h1 h.size, h2⟩
def Sit.at (s : Sit) (w' : World) : Sit := { s with w := w' }
theorem Sit.ext_at {s : Sit} {w' : World} (h : Below s.w.heap.size s.w w') : Ext s (s.at w') := by
  refine ⟨fun b c u hs hc => cell_old h hc, fun b c _ hs => hs, fun i cs l hi hl => ⟨hl, cs, hi⟩, fun i E k rows sh l hi hl => ⟨rows, sh, l, hi, hl, .inl ⟨rfl, rfl, id⟩⟩, fun _ _ _ I _ hi hl => ⟨hl, I, hi⟩, fun _ _ r _ hi hl => ⟨hl, r, hi⟩, fun _ _ r _ hi hl => ⟨hl, r, hi⟩⟩
theorem Heap0.at {s : Sit} {w' : World} (H : Heap0 s) (h : Below s.w.heap.size s.w w') : Heap0 (s.at w') :=
  ⟨fun i o hi => (H.objs i o hi).ext (Sit.ext_at h) rfl rfl fun l b hl hb => h.block b (H.lt i l b hl hb).1, H.dom, H.inj, fun i l b hl hb => ⟨Nat.lt_of_lt_of_le (H.lt i l b hl hb).1 h.size, (H.lt i l b hl hb).2⟩⟩
theorem Turn.new {s : Sit} {id : Nat} {o' : Obj'} {l' : Value} {w' : World} (hid : s.σ id = none) (hb : ∀ k, k < s.w.heap.size → w'.heap[k]? = s.w.heap[k]?) (hsz : s.w.heap.size ≤ w'.heap.size) (hbase : s.base ≤ s.w.heap.size)
    (hl : ∀ b, locBlk l' = some b → b < w'.heap.size ∧ s.w.heap.size ≤ b) : Turn s id o' l' w' :=
  ⟨fun k hk _ => hb k hk, hsz, fun b hb' => ⟨(hl b hb').1, .inl (Nat.le_trans hbase (hl b hb').2), .inr (hl b hb').2⟩, fun l b h => by rw [hid] at h; cases h⟩
theorem Turn.new_ext {s : Sit} {id : Nat} {o' : Obj'} {l' : Value} {w' : World} (h : Turn s id o' l' w') (hid : s.σ id = none) : Ext s (s.put id o' l' w') :=
  h.ext (fun _ _ _ h2 => by rw [hid] at h2; cases h2) (fun _ _ _ _ _ _ h2 => by rw [hid] at h2; cases h2)
theorem RelCs.len {s : Sit} {cs : List AC} {us : Array Value} (h : RelCs s cs us) : us.size = cs.length := h.1
theorem new_box {s : Sit} (H : Heap0 s) {id : Nat} (hid : s.σ id = none) (hbase : s.base ≤ s.w.heap.size) {cs : List AC} {vs : Array Value} (hr : RelCs s cs vs) (ty : TypeId) :
    Heap0 (s.put id (.box cs) (.pointer (some ⟨s.w.heap.size, 0, none⟩)) (s.w.alloc (.cells vs ty (0, 0)))) ∧ Ext s (s.put id (.box cs) (.pointer (some ⟨s.w.heap.size, 0, none⟩)) (s.w.alloc (.cells vs ty (0, 0)))) := by
  have hT : Turn s id (.box cs) (.pointer (some ⟨s.w.heap.size, 0, none⟩)) (s.w.alloc (.cells vs ty (0, 0))) :=
    Turn.new hid (fun k hk => Below.heap_alloc _ _ _ hk) (by simp) hbase (fun b hb => by simp [locBlk] at hb; subst hb; simp)
  have he := hT.new_ext hid
  exact ⟨hT.heap H he ⟨s.w.heap.size, vs, ty, by simp [Sit.put, upd_same], World.alloc_heap_new s.w _, he.relCs hr⟩, he⟩
theorem set_box {s : Sit} (H : Heap0 s) {id : Nat} {cs : List AC} (hid : s.h id = some (.box cs)) {cs' : List AC} {vs' : Array Value} {blk : Nat} {ty : TypeId} {w' : World} (hσ : s.σ id = some (.pointer (some ⟨blk, 0, none⟩)))
    (hsz : w'.heap.size = s.w.heap.size) (hb : ∀ k, k ≠ blk → w'.heap[k]? = s.w.heap[k]?) (hn : w'.heap[blk]? = some (.cells vs' ty (0, 0))) (hr : RelCs s cs' vs') :
    Heap0 (s.put id (.box cs') (.pointer (some ⟨blk, 0, none⟩)) w') ∧ Ext s (s.put id (.box cs') (.pointer (some ⟨blk, 0, none⟩)) w') := by
  have hlt := H.lt id _ blk hσ rfl
  have hT : Turn s id (.box cs') (.pointer (some ⟨blk, 0, none⟩)) w' :=
    ⟨fun k _ hne => hb k (fun e => hne _ hσ (by rw [e]; rfl)), by omega, fun b hb' => by
      simp [locBlk] at hb'; subst hb'; exact ⟨by omega, hlt.2, .inl ⟨_, hσ, rfl⟩⟩, fun _ _ _ _ _ _ _ h => by rw [hid] at h; cases h⟩
  have he : Ext s (s.put id (.box cs') (.pointer (some ⟨blk, 0, none⟩)) w') :=
    hT.ext (fun _ l _ h2 => ⟨Option.some.inj (hσ.symm.trans h2), cs', rfl⟩) (fun _ _ _ _ _ h _ => by rw [hid] at h; cases h)
  exact ⟨hT.heap H he ⟨blk, vs', ty, by simp [Sit.put, upd_same], hn, he.relCs hr⟩, he⟩
end Go.Pv
namespace Go.Pv
open Go Go.RowKit Go.Sh
theorem locBlk_own {w : World} {base : Nat} {E : TypeId} {k : Nat} {v : Value} {n : Nat} {xs : List Value} (h : w.ownsRow base E k v n xs) : locBlk v = v.ownBlock := by
  rcases h.2 with ⟨rfl, _⟩ | ⟨g, cap, cur, rfl, _⟩ <;> rfl
theorem RelP.one {Z : Zn} {w : World} {x : PV} {u : Value} (h : RelP Z w x u) : u.oneCell' = true := by
  cases h with
  | v x h => exact h
  | sl => rfl
  | ptr => rfl
  | any x h => exact h
theorem RelC.one {s : Sit} {c : AC} {u : Value} (h : RelC s c u) (H : Heap0 s) : u.oneCell' = true := by
  cases c with
  | p x => exact RelP.one h
  | own t n =>
    obtain ⟨E, k, rows, sh, l, h1, h2, hn, h3, h7⟩ := h
    rcases Nat.lt_or_eq_of_le hn with hlt | heq
    · exact RelP.one (h7 hlt).2
    · rw [h3 heq]
      obtain ⟨val, xs, h4, h5, _⟩ := H.objs _ _ h1
      rw [h2] at h4; cases h4
      rcases h5.2 with ⟨rfl, _⟩ | ⟨g, cap, cur, rfl, _⟩ <;> rfl
  | nil => subst h; rfl
  | box b o => obtain ⟨_, _, _, _, rfl⟩ := h; rfl
  | ix row o => obtain ⟨_, _, _, rfl, _⟩ := h; rfl
  | oix t i o =>
    obtain ⟨_, _, _, _, _, _, _, _, h, _⟩ := h; exact h
  | fn f caps => obtain ⟨_, rfl, _⟩ := h; rfl
  | any => exact h
  | memo m => obtain ⟨_, _, _, _, _, _, rfl⟩ := h; rfl
  | yld l => obtain ⟨_, _, _, _, rfl⟩ := h; rfl
  | raw l => obtain ⟨_, _, _, _, h⟩ := h; exact h
  | bfn f first => obtain ⟨_, rfl, _⟩ := h; rfl
  | ifc T b => obtain ⟨_, _, _, _, rfl⟩ := h; rfl
  | bfx f b => obtain ⟨_, _, _, _, rfl⟩ := h; rfl
def rowsK (k : Nat) (rows : List (List PV)) : Prop := ∀ (i : Nat) (row : List PV), rows[i]? = some row → row.length = k
def Cellwise (Z : Zn) (w : World) (k : Nat) (rows : List (List PV)) (xs : List Value) : Prop :=
  ∀ (i : Nat) (row : List PV) (j : Nat) (c : PV), rows[i]? = some row → row[j]? = some c → ∃ u, xs[i * k + j]? = some u ∧ RelP Z w c u
theorem Cellwise.append {Z : Zn} {w : World} {k : Nat} {rows more : List (List PV)} {xs ys : List Value} (hl : xs.length = rows.length * k) (hk : rowsK k rows) (h1 : Cellwise Z w k rows xs) (h2 : Cellwise Z w k more ys) : Cellwise Z w k (rows ++ more) (xs ++ ys) := by
  intro i row j c hi hj
  by_cases h : i < rows.length
  · rw [List.getElem?_append_left h] at hi
    obtain ⟨u, hu, hr⟩ := h1 i row j c hi hj
    exact ⟨u, by rw [List.getElem?_append_left (List.getElem?_eq_some_iff.1 hu).1]; exact hu, hr⟩
  · rw [List.getElem?_append_right (by omega)] at hi
    obtain ⟨u, hu, hr⟩ := h2 _ row j c hi hj
    have hle : rows.length * k ≤ i * k := Nat.mul_le_mul_right _ (by omega)
    refine ⟨u, ?_, hr⟩
    rw [List.getElem?_append_right (by omega), ← hu]
    congr 1
    rw [Nat.sub_mul, hl]; omega
theorem rowsK.append {k : Nat} {rows more : List (List PV)} (h1 : rowsK k rows) (h2 : rowsK k more) : rowsK k (rows ++ more) := by
  intro i row hi
  by_cases h : i < rows.length
  · rw [List.getElem?_append_left h] at hi; exact h1 i row hi
  · rw [List.getElem?_append_right (by omega)] at hi; exact h2 _ row hi
theorem relP_own {Z : Zn} {w : World} {base : Nat} {E : TypeId} {k : Nat} {v : Value} {rows : List (List PV)} {xs : List Value} (h : w.ownsRow base E k v rows.length xs) (hk : rowsK k rows) (hc : Cellwise Z w k rows xs)
    (hz : ∀ b, v.ownBlock = some b → ∀ c, c < rows.length * k → Z b c) : RelP Z w (.sl rows) v := by
  obtain ⟨h1, h2⟩ := h
  rcases h2 with ⟨rfl, h0⟩ | ⟨g, cap, cur, rfl, hg, hh, hn, hcm, hsz, htake⟩
  · have hr : rows = [] := List.eq_nil_of_length_eq_zero h0
    subst hr
    exact .sl [] 0 none 0 0 0 (fun _ _ => default) (by simp) (by simp) (by simp) (by simp) (by simp) (by simp)
  · have hlt : ∀ (i : Nat) (row : List PV) (j : Nat) (c : PV), rows[i]? = some row → row[j]? = some c → i * k + j < rows.length * k := by
      intro i row j c hi hj
      have hi' := (List.getElem?_eq_some_iff.1 hi).1
      have hj' := (List.getElem?_eq_some_iff.1 hj).1
      rw [hk i row hi] at hj'
      have : (i + 1) * k ≤ rows.length * k := Nat.mul_le_mul_right _ hi'
      rw [Nat.succ_mul] at this; omega
    refine .sl rows k (some ⟨g, 0, none⟩) cap g 0 (fun i j => (xs[i * k + j]?).getD default) (by simp only [maxLen] at hcm; omega) hk (fun _ => rfl) ?_ ?_ ?_
    · intro i row j c hi hj
      obtain ⟨u, hu, _⟩ := hc i row j c hi hj
      rw [hu, Nat.zero_add, cell_of_row w g _ cur E (0, 0) hh]
      rw [← htake, List.getElem?_take, if_pos (hlt i row j c hi hj)] at hu
      simpa using hu
    · intro i row j c hi hj
      rw [Nat.zero_add]
      exact hz g rfl _ (hlt i row j c hi hj)
    · intro i row j c hi hj
      obtain ⟨u, hu, hr⟩ := hc i row j c hi hj
      rw [hu]; exact hr
variable {P : Program}
theorem run_append_strong (w : World) (base : Nat) (t ty e : TypeId) (i : TypeInfo) (z : Value) (size bytes : Nat) (ht : P.underlying t = some (.slice e)) (hi : P.info? e = some i) (hz : i.zero = some z)
    (hsize : i.size = size) (hby : i.bytes = bytes) (hzs : z.cells.size = size) (hsz : 0 < size)
    (v : Value) (n : Nat) (xs : List Value) (hown : w.ownsRow base e size v n xs)
    (a : Addr) (m c : Nat) (news : List Value) (hl : news.length = m * size) (hnews : ∀ j u, news[j]? = some u → w.cell? (a.add j) = some u) (h1 : ∀ u ∈ news, u.oneCell' = true)
    (h63 : n + m ≤ maxLen) (hbytes : (n + m) * bytes ≤ 140737488355328) (hbase : base ≤ w.heap.size) :
    ∃ v' w', (Builtin.append_ #[t, t] ty #[v, .slice (some a) m c]).run P w = .ok v' w' ∧ w'.ownsRow base e size v' (n + m) (xs ++ news) ∧ w.grownBy w' v.ownBlock ∧
      (∀ g, v.ownBlock = some g → ∀ c u, c < n * size → w.cell? ⟨g, c, none⟩ = some u → w'.cell? ⟨g, c, none⟩ = some u) ∧ (∀ b, v'.ownBlock = some b → v.ownBlock = some b ∨ w.heap.size ≤ b) ∧ (m = 0 → v' = v) := by
  obtain ⟨v', w', hr, ho, hg, hnn⟩ := run_append_own w base t ty e i z size bytes ht hi hz hsize hby hzs hsz v n xs hown a m c news hl hnews h1 h63 hbytes hbase
  refine ⟨v', w', hr, ho, hg, ?_⟩
  rcases hown.2 with ⟨rfl, rfl⟩ | ⟨g, cap, cur, rfl, hbg, hh, hnc, hcm, hcs, htake⟩
  · refine ⟨fun _ h => (by cases h), fun b hb => .inr ?_, fun hm => hnn.2 ⟨rfl, hm⟩⟩
    have hown2 : w.ownsRow w.heap.size e size (.slice none 0 0) 0 xs := ⟨hown.1, .inl ⟨rfl, rfl⟩⟩
    obtain ⟨v2, w2, hr2, ho2, _⟩ := run_append_own w w.heap.size t ty e i z size bytes ht hi hz hsize hby hzs hsz _ 0 xs hown2 a m c news hl hnews h1 h63 hbytes (Nat.le_refl _)
    rw [hr] at hr2; cases hr2
    exact (ho2.lt b hb).1
  · have hsmall : n + m ≤ 9223372036854775807 := by simp only [maxLen] at h63; omega
    by_cases hroom : n + m ≤ cap
    · have hfit : n * i.size + news.length ≤ cur.size := by rw [hl, hcs, hsize, ← Nat.add_mul]; exact Nat.mul_le_mul_right _ hroom
      have hr2 := run_append_room (P := P) w t ty e i ht hi g n cap cur hh a m c news (by rw [hsize]; exact hl) hnews h1 hroom hfit
      rw [hr] at hr2; cases hr2
      refine ⟨fun g' hg' c u hc hu => ?_, fun b hb => .inl ?_, fun hm => by rw [hm, Nat.add_zero]⟩
      · simp only [Value.ownBlock, Option.some.injEq] at hg'; subst hg'
        rw [cell_setRow_same w g c cur _ e _ hh]
        rw [cell_of_row w g c cur e (0, 0) hh] at hu
        have hlt : c < cur.size := (Array.getElem?_eq_some_iff.1 hu).1
        rw [hsize]
        have : c < (cur.toList.take (n * size)).length := by simp; omega
        simp only [List.getElem?_toArray, List.append_assoc]
        rw [List.getElem?_append_left this, List.getElem?_take, if_pos hc]
        simpa using hu
      · simpa [Value.ownBlock] using hb
    · have holds : ∀ j u, xs[j]? = some u → w.cell? ((⟨g, 0, none⟩ : Addr).add j) = some u := hown.cells (g := g) rfl
      have hr2 := run_append_grow (P := P) w t ty e i z ht hi hz ⟨g, 0, none⟩ n cap xs (by rw [hsize]; exact hown.1) holds a m c news (by rw [hsize]; exact hl) hnews (by omega) (by omega) (growslice_fits (by omega) (by rw [hby]; exact hbytes))
      rw [hr] at hr2; cases hr2
      refine ⟨fun g' _ c u _ hu => cell_old ?_ hu, fun b hb => .inr ?_, fun hm => by omega⟩
      · exact ⟨rfl, rfl, rfl, by simp, fun k hk => Below.heap_alloc _ _ _ (by simpa using hk)⟩
      · simp [Value.ownBlock] at hb; omega
theorem new_arr {s : Sit} (H : Heap0 s) {id : Nat} (hid : s.σ id = none) (hbase : s.base ≤ s.w.heap.size) {E : TypeId} {k : Nat} {rows : List (List PV)} (sh : Bool) {val : Value} {xs : List Value} {w' : World}
    (hown : w'.ownsRow s.base E k val rows.length xs) (hg : s.w.grownBy w' none) (hb : ∀ b, val.ownBlock = some b → s.w.heap.size ≤ b) (hk : rowsK k rows) (hc : Cellwise s.Safe s.w k rows xs) :
    Heap0 (s.put id (.arr E k rows sh) val w') ∧ Ext s (s.put id (.arr E k rows sh) val w') := by
  have hT : Turn s id (.arr E k rows sh) val w' :=
    Turn.new hid (fun k hk => hg.block k hk (by simp)) hg.size hbase (fun b hb' => by rw [locBlk_own hown] at hb'; exact ⟨(hown.lt b hb').2, hb b hb'⟩)
  have he := hT.new_ext hid
  exact ⟨hT.heap H he ⟨val, xs, by simp [Sit.put, upd_same], hown, hk, fun i row j c hi hj => let ⟨u, hu, hr⟩ := hc i row j c hi hj; ⟨u, hu, he.relP hr⟩⟩, he⟩
theorem grow_arr {s : Sit} (H : Heap0 s) {id : Nat} {E : TypeId} {k : Nat} {rows more : List (List PV)} {sh : Bool} (hid : s.h id = some (.arr E k rows sh)) {val val' : Value} {xs ys : List Value} {w' : World} (hσ : s.σ id = some val)
    (hlen : xs.length = rows.length * k) (hkr : rowsK k rows) (hcx : Cellwise s.Safe s.w k rows xs) (hv : locBlk val = val.ownBlock)
    (hown0 : s.w.ownsRow s.base E k val rows.length xs) (hown : w'.ownsRow s.base E k val' (rows.length + more.length) (xs ++ ys)) (hg : s.w.grownBy w' val.ownBlock)
    (hkeep : ∀ g, val.ownBlock = some g → ∀ c u, c < rows.length * k → s.w.cell? ⟨g, c, none⟩ = some u → w'.cell? ⟨g, c, none⟩ = some u) (hb : ∀ b, val'.ownBlock = some b → val.ownBlock = some b ∨ s.w.heap.size ≤ b) (hbase : s.base ≤ s.w.heap.size)
    (hk : rowsK k more) (hc : Cellwise s.Safe s.w k more ys) (sh' : Bool) (hsh : rows = [] ∨ sh' = true) (hsh2 : sh = true → sh' = true) (hme : more = [] → val' = val) :
    Heap0 (s.put id (.arr E k (rows ++ more) sh') val' w') ∧ Ext s (s.put id (.arr E k (rows ++ more) sh') val' w') := by
  have hT : Turn s id (.arr E k (rows ++ more) sh') val' w' := by
    refine ⟨fun b hb' hne => hg.block b hb' fun e => hne val hσ (by rw [hv]; exact e.symm), hg.size, fun b hb' => ?_, fun l b hl hb' E' k' rows' hr => ?_⟩
    · rw [locBlk_own hown] at hb'
      have h1 := hown.lt b hb'
      refine ⟨h1.2, .inl h1.1, ?_⟩
      rcases hb b hb' with h2 | h2
      · exact .inl ⟨val, hσ, by rw [hv]; exact h2⟩
      · exact .inr h2
    · rw [hσ] at hl; cases hl
      rw [hid] at hr; cases hr
      rw [hv] at hb'
      exact ⟨hkeep b hb', rows ++ more, by rw [hsh2 rfl], by simp⟩
  have hlt0 : ∀ b, val.ownBlock = some b → b < s.w.heap.size := fun b hb' => (hown0.lt b hb').2
  have hP : RelP (s.put id (.arr E k (rows ++ more) sh') val' w').Safe w' (.sl rows) val := by
    rcases hsh with rfl | hs'
    · rcases hown0.2 with ⟨rfl, h0⟩ | ⟨g, cap, cur, rfl, _⟩
      · exact .sl [] 0 none 0 0 0 (fun _ _ => default) (by simp) (by simp) (by simp) (by simp) (by simp) (by simp)
      · exact .sl [] 0 (some ⟨g, 0, none⟩) cap 0 0 (fun _ _ => default) (by simp) (by simp) (by simp) (by simp) (by simp) (by simp)
    · subst hs'
      have hp0 : RelP (fun b c => val.ownBlock = some b ∧ c < rows.length * k ∨ s.Safe b c) s.w (.sl rows) val := by
        refine relP_own hown0 hkr (fun i row j c hi hj => ?_) fun b hb' c hc' => .inl ⟨hb', hc'⟩
        obtain ⟨u, hu, hr⟩ := hcx i row j c hi hj
        exact ⟨u, hu, hr.mono fun _ _ _ h1 h2 => ⟨.inr h1, h2⟩⟩
      refine hp0.mono fun b c u hz hcell => ?_
      rcases hz with ⟨hz1, hz2⟩ | hz
      · refine ⟨⟨.inr (hown0.lt b hz1).1, fun i l hi hl => ?_⟩, hkeep b hz1 c u hz2 hcell⟩
        by_cases hii : i = id
        · exact ⟨E, k, rows ++ more, by simp [Sit.put, upd, hii], by rw [List.length_append, Nat.add_mul]; omega⟩
        · exfalso
          simp only [Sit.put, upd_other _ _ hii] at hi
          exact hii (H.inj i id l val b hi hσ hl (by rw [hv]; exact hz1))
      · exact ⟨hT.safe b c (World.block_lt_of_cell? _ _ hcell) hz, hT.cell b c u hz hcell⟩
  have he : Ext s (s.put id (.arr E k (rows ++ more) sh') val' w') :=
    hT.ext (fun _ _ h _ => by rw [hid] at h; cases h) (fun E' k' rows' sh0 l h1 h2 => by
      rw [hid] at h1; cases h1
      rw [hσ] at h2; cases h2
      exact ⟨_, _, rfl, .inr (.inl ⟨⟨more, rfl, hme⟩, hsh, hsh2, hP⟩)⟩)
  refine ⟨hT.heap H he ⟨val', xs ++ ys, by simp [Sit.put, upd_same], by rw [List.length_append]; exact hown, hkr.append hk, ?_⟩, he⟩
  exact fun i row j c hi hj => let ⟨u, hu, hr⟩ := (Cellwise.append hlen hkr hcx hc) i row j c hi hj; ⟨u, hu, he.relP hr⟩
theorem share_arr {s : Sit} (H : Heap0 s) {id : Nat} {E : TypeId} {k : Nat} {rows : List (List PV)} {sh : Bool} (hid : s.h id = some (.arr E k rows sh)) {val : Value} (hσ : s.σ id = some val) :
    Heap0 (s.put id (.arr E k rows true) val s.w) ∧ Ext s (s.put id (.arr E k rows true) val s.w) := by
  have hT : Turn s id (.arr E k rows true) val s.w := by
    refine ⟨fun _ _ _ => rfl, Nat.le_refl _, fun b hb => ⟨(H.lt id val b hσ hb).1, (H.lt id val b hσ hb).2, .inl ⟨val, hσ, hb⟩⟩, fun l b _ _ E' k' rows' hr => ?_⟩
    rw [hid] at hr; cases hr
    exact ⟨fun _ _ _ h => h, rows, rfl, Nat.le_refl _⟩
  have he : Ext s (s.put id (.arr E k rows true) val s.w) :=
    hT.ext (fun _ _ h _ => by rw [hid] at h; cases h) (fun E' k' rows' sh0 l h1 h2 => by
      rw [hid] at h1; cases h1
      rw [hσ] at h2; cases h2
      exact ⟨_, _, rfl, .inl ⟨rfl, rfl, fun _ => rfl⟩⟩)
  obtain ⟨val0, xs, h1, h2, h3, h4⟩ := H.objs _ _ hid
  rw [hσ] at h1; cases h1
  exact ⟨hT.heap H he ⟨val, xs, by simp [Sit.put, upd_same], h2, h3, fun i row j c hi hj => let ⟨u, hu, hr⟩ := h4 i row j c hi hj; ⟨u, hu, he.relP hr⟩⟩, he⟩
theorem set_arr {s : Sit} (H : Heap0 s) {id : Nat} {E : TypeId} {k : Nat} {rows rows' : List (List PV)} (hid : s.h id = some (.arr E k rows false)) {val : Value} (hσ : s.σ id = some val) {xs' : List Value} {w' : World}
    (hsz : w'.heap.size = s.w.heap.size) (hb : ∀ b, (∀ g, val.ownBlock = some g → b ≠ g) → w'.heap[b]? = s.w.heap[b]?) (hv : locBlk val = val.ownBlock)
    (hown : w'.ownsRow s.base E k val rows'.length xs') (hl : rows'.length = rows.length) (hk : rowsK k rows') (hc : Cellwise s.Safe s.w k rows' xs') :
    Heap0 (s.put id (.arr E k rows' false) val w') ∧ Ext s (s.put id (.arr E k rows' false) val w') := by
  have hT : Turn s id (.arr E k rows' false) val w' := by
    refine ⟨fun b _ hne => hb b fun g hg he => hne val hσ (by rw [hv, hg, he]), by omega, fun b hb' => ⟨by have := (H.lt id val b hσ hb').1; omega, (H.lt id val b hσ hb').2, .inl ⟨val, hσ, hb'⟩⟩, fun l b _ _ E' k' rows0 hr => ?_⟩
    rw [hid] at hr; cases hr
  have he : Ext s (s.put id (.arr E k rows' false) val w') :=
    hT.ext (fun _ _ h _ => by rw [hid] at h; cases h) (fun E' k' rows0 sh0 l h1 h2 => by
      rw [hid] at h1; cases h1
      rw [hσ] at h2; cases h2
      exact ⟨_, _, rfl, .inr (.inr ⟨rfl, rfl, rfl, hl⟩)⟩)
  exact ⟨hT.heap H he ⟨val, xs', by simp [Sit.put, upd_same], hown, hk, fun i row j c hi hj => let ⟨u, hu, hr⟩ := hc i row j c hi hj; ⟨u, hu, he.relP hr⟩⟩, he⟩
end Go.Pv
namespace Go.Pv
open Go Go.RowKit Go.Sh
def peek (P : Program) {α : Type} : Sem α → Option α
  | .pure a => some a
  | .program k => peek P (k P)
  | _ => none
theorem peek_run {P : Program} {α : Type} {e : Sem α} {a : α} (h : peek P e = some a) (w : World) : e.run P w = .ok a w := by
  induction e with
  | pure b => simp only [peek, Option.some.injEq] at h; subst h; rfl
  | program k ih => exact ih P h
  | _ => cases h
def isAggD : TypeDesc → Bool
  | .struct _ | .array _ _ => true
  | _ => false
def tyAgg (P : Program) (t : TypeId) : Option Bool := (P.underlying t).map isAggD
def tySize (P : Program) (t : TypeId) : Option Nat := (P.info? t).map (·.size)
def tyBytes (P : Program) (t : TypeId) : Option Nat := (P.info? t).map (·.bytes)
def zeroAC : Value → Option AC
  | .slice none 0 0 => some .nil
  | x => if x.oneCell' then some (.p (.v x)) else none
def tyZero (P : Program) (t : TypeId) : Option (List AC) := ((P.info? t).bind (·.zero)).bind fun z => z.cells.toList.mapM zeroAC
def fldOf (P : Program) (t : TypeId) (f : Nat) : Option (Nat × Nat × Bool) :=
  match P.underlying t with
  | some (.struct fs) => (fs[f]?).bind fun fd => (tySize P fd.type).bind fun sz => (tyAgg P fd.type).bind fun ag => some (fd.offset, sz, ag)
  | _ => none
def sliceElem (P : Program) (t : TypeId) : Option TypeId := match P.underlying t with | some (.slice e) => some e | _ => none
def arrElem (P : Program) (t : TypeId) : Option (Nat × TypeId) := match P.underlying t with | some (.array n e) => some (n, e) | _ => none
def constA : Value → Option AV
  | .agg cs => (cs.toList.mapM zeroAC).map .agg
  | .tuple _ => none
  | x => (zeroAC x).map .one
theorem zeroAC_rel {s : Sit} {x : Value} {c : AC} (h : zeroAC x = some c) : RelC s c x := by
  unfold zeroAC at h
  split at h
  · cases h; rfl
  · split at h
    · cases h; exact .v _ ‹_›
    · cases h
theorem mapM_get {α β : Type} {f : α → Option β} : ∀ {l : List α} {r : List β}, l.mapM f = some r → r.length = l.length ∧ ∀ (j : Nat) (y : β), r[j]? = some y → ∃ x, l[j]? = some x ∧ f x = some y
  | [], r, h => by simp at h; subst h; simp
  | a :: l, r, h => by
    simp only [List.mapM_cons, Option.pure_def, Option.bind_eq_bind, Option.bind_eq_some_iff, Option.some.injEq] at h
    obtain ⟨b, hb, r', hr', rfl⟩ := h
    obtain ⟨h1, h2⟩ := mapM_get hr'
    refine ⟨by simp [h1], fun j y hj => ?_⟩
    cases j with
    | zero => simp at hj; subst hj; exact ⟨a, rfl, hb⟩
    | succ j => simpa using h2 j y (by simpa using hj)
theorem relCs_zero {s : Sit} {vs : Array Value} {cs : List AC} (h : vs.toList.mapM zeroAC = some cs) : RelCs s cs vs := by
  obtain ⟨h1, h2⟩ := mapM_get h
  refine ⟨by simpa using h1.symm, fun j c hj => ?_⟩
  obtain ⟨x, hx, hf⟩ := h2 j c hj
  exact ⟨x, by simpa using hx, zeroAC_rel hf⟩
theorem constA_rel {s : Sit} {x : Value} {av : AV} (h : constA x = some av) : RelV s av x := by
  unfold constA at h
  split at h
  · simp only [Option.map_eq_some_iff] at h
    obtain ⟨cs, h1, rfl⟩ := h
    exact ⟨_, rfl, relCs_zero h1⟩
  · cases h
  · simp only [Option.map_eq_some_iff] at h
    obtain ⟨c, h1, rfl⟩ := h
    exact zeroAC_rel h1
def evalA (fr : Nat → Option AV) : Operand → Option AV
  | .tmp t => fr t
  | .const v => constA v
  | .func f => some (.one (.fn f []))
  | .global _ => none
def RelF (s : Sit) (fr : Nat → Option AV) (a : Act) : Prop := ∀ t av, fr t = some av → t < a.tmps.size ∧ RelV s av (a.tmps.getD t undef)
theorem evalA_rel {s : Sit} {fr : Nat → Option AV} {a : Act} (hF : RelF s fr a) {x : Operand} {av : AV} (h : evalA fr x = some av) : RelV s av (a.eval x) := by
  cases x with
  | tmp t => exact (hF t av h).2
  | const v => exact constA_rel h
  | global g => cases h
  | func f => cases h; exact ⟨#[], rfl, rfl, by simp⟩
def cellsA : AV → Option (List AC)
  | .one c => some [c]
  | .agg cs => some cs
  | _ => none
theorem cells_one {u : Value} (h : u.oneCell' = true) : u.cells = #[u] := by cases u <;> first | rfl | (cases h)
theorem cellsA_rel {s : Sit} (H : Heap0 s) {av : AV} {u : Value} (h : RelV s av u) {cs : List AC} (hc : cellsA av = some cs) : RelCs s cs u.cells := by
  cases av with
  | one c =>
    cases hc
    rw [cells_one (RelC.one h H)]
    refine ⟨rfl, fun j c' hj => ?_⟩
    cases j with
    | zero => simp at hj; subst hj; exact ⟨u, rfl, h⟩
    | succ j => simp at hj
  | agg cs' => cases hc; obtain ⟨us, rfl, h⟩ := h; exact h
  | tup => cases hc
  | any => cases hc
  | und => cases hc
def plainC : AC → Option Value
  | .p (.v x) => some x
  | _ => none
def plainOf : AV → Option Value
  | .one c => plainC c
  | .agg cs => (cs.mapM plainC).map fun l => .agg l.toArray
  | _ => none
theorem plainC_rel {s : Sit} {c : AC} {u x : Value} (h : RelC s c u) (hp : plainC c = some x) : u = x := by
  unfold plainC at hp
  split at hp
  · cases hp; cases h; rfl
  · cases hp
theorem plainOf_rel {s : Sit} {av : AV} {u x : Value} (h : RelV s av u) (hp : plainOf av = some x) : u = x := by
  cases av with
  | one c => exact plainC_rel h hp
  | agg cs =>
    simp only [plainOf, Option.map_eq_some_iff] at hp
    obtain ⟨l, hl, rfl⟩ := hp
    obtain ⟨us, rfl, hs, hr⟩ := h
    obtain ⟨h1, h2⟩ := mapM_get hl
    congr 1
    apply Array.ext
    · simp [hs, h1]
    · intro j hj hj'
      have hjl : j < l.length := by simpa using hj'
      obtain ⟨c, hc, hf⟩ := h2 j l[j] (by simp [hjl])
      obtain ⟨x, hx, hrx⟩ := hr j c hc
      have := plainC_rel hrx hf
      subst this
      rw [Array.getElem?_eq_some_iff] at hx
      obtain ⟨_, hx⟩ := hx
      simpa using hx
  | tup => cases hp
  | any => cases hp
  | und => cases hp
def rowAtA (h : Nat → Option Obj') : AV → Option (List AC)
  | .one (.box b o) => match h b with | some (.box cs) => some (cs.drop o) | _ => none
  | .one (.ix row o) => some ((row.drop o).map .p)
  | .one (.p (.ptr row)) => some (row.map .p)
  | .one (.oix t i o) => match h t with | some (.arr _ _ rows false) => (rows[i]?).map fun r => (r.drop o).map .p | _ => none
  | _ => none
theorem rowAtA_rel {s : Sit} (H : Heap0 s) {av : AV} {u : Value} (h : RelV s av u) {row : List AC} (hr : rowAtA s.h av = some row) :
    ∃ b o, u = .pointer (some ⟨b, o, none⟩) ∧ ∀ (j : Nat) (c : AC), row[j]? = some c → ∃ x, s.w.cell? ⟨b, o + j, none⟩ = some x ∧ RelC s c x := by
  unfold rowAtA at hr
  split at hr
  · rename_i b o
    obtain ⟨cs, blk, h1, h2, rfl⟩ := h
    rw [h1] at hr; cases hr
    obtain ⟨blk', vs, ty, h3, h4, h5⟩ := H.objs _ _ h1
    rw [h2] at h3; cases h3
    refine ⟨blk, o, rfl, fun j c hj => ?_⟩
    rw [List.getElem?_drop] at hj
    obtain ⟨x, hx, hrx⟩ := h5.2 _ c hj
    exact ⟨x, by rw [cell_of_row s.w blk _ vs ty (0, 0) h4]; exact hx, hrx⟩
  · rename_i row' o
    obtain ⟨b, off, us, rfl, h⟩ := h
    cases hr
    refine ⟨b, off + o, rfl, fun j c hj => ?_⟩
    rw [List.getElem?_map, List.getElem?_drop] at hj
    cases hq : row'[o + j]? with
    | none => rw [hq] at hj; cases hj
    | some c0 =>
      rw [hq] at hj; cases hj
      obtain ⟨_, h2, h3⟩ := h _ c0 hq
      exact ⟨_, by rw [Nat.add_assoc]; exact h2, h3⟩
  · rename_i row'
    cases h with
    | ptr _ b off us hc hz hrr =>
      cases hr
      refine ⟨b, off, rfl, fun j c hj => ?_⟩
      rw [List.getElem?_map] at hj
      cases hq : row'[j]? with
      | none => rw [hq] at hj; cases hj
      | some c0 =>
        rw [hq] at hj; cases hj
        exact ⟨_, hc j c0 hq, hrr j c0 hq⟩
  · rename_i t i o
    obtain ⟨E, k, rows, sh, l, h1, h2, h3, _, h4⟩ := h
    rw [h1] at hr
    cases sh with
    | true => cases hr
    | false =>
      simp only [Option.map_eq_some_iff] at hr
      obtain ⟨r, hi, rfl⟩ := hr
      obtain ⟨blk, hblk, rfl⟩ := h4 rfl
      obtain ⟨val, xs, h5, h6, h7, h8⟩ := H.objs _ _ h1
      rw [h2] at h5; cases h5
      refine ⟨blk, i * k + o, rfl, fun j c hj => ?_⟩
      rw [List.getElem?_map, List.getElem?_drop] at hj
      cases hq : r[o + j]? with
      | none => rw [hq] at hj; cases hj
      | some c0 =>
        rw [hq] at hj; cases hj
        obtain ⟨x, hx, hrx⟩ := h8 i r (o + j) c0 hi hq
        refine ⟨x, ?_, hrx⟩
        have := h6.cells (g := blk) (by rw [← locBlk_own h6]; exact hblk) (i * k + (o + j)) x hx
        rw [Addr.add_lit] at this
        simpa [Nat.add_assoc] using this
  · cases hr
def loadA (P : Program) (h : Nat → Option Obj') (t : TypeId) (av : AV) : Option AV :=
  (rowAtA h av).bind fun row => (tyAgg P t).bind fun ag => (tySize P t).bind fun sz =>
    if ag then (if sz ≤ row.length then some (.agg (row.take sz)) else none) else (row[0]?).map .one
theorem run_isAgg {P : Program} {t : TypeId} {b : Bool} (h : tyAgg P t = some b) (w : World) : (isAgg t).run P w = .ok b w := by
  unfold tyAgg at h
  simp only [Option.map_eq_some_iff] at h
  obtain ⟨d, hd, rfl⟩ := h
  simp only [isAgg, Sem.run_bind, run_underlying hd, Result.andThen_ok]
  cases d <;> rfl
theorem run_sizeOf' {P : Program} {t : TypeId} {n : Nat} (h : tySize P t = some n) (w : World) : (sizeOf t).run P w = .ok n w := by
  unfold tySize at h
  simp only [Option.map_eq_some_iff] at h
  obtain ⟨i, hi, rfl⟩ := h
  simp [sizeOf, typeInfo, hi]
theorem run_zero' {P : Program} {t : TypeId} {cs : List AC} (h : tyZero P t = some cs) : ∃ z : Value, z.cells.toList.mapM zeroAC = some cs ∧ ∀ w, (zeroValue t).run P w = .ok z w := by
  unfold tyZero at h
  simp only [Option.bind_eq_some_iff] at h
  obtain ⟨z, ⟨i, hi, hz⟩, hc⟩ := h
  exact ⟨z, hc, fun w => by simp [zeroValue, typeInfo, hi, hz]⟩
theorem loadA_run {P : Program} {s : Sit} (H : Heap0 s) {t : TypeId} {av r : AV} {u : Value} (hu : RelV s av u) (h : loadA P s.h t av = some r) : ∃ x, (Instr.loadAt t u).run P s.w = .ok x s.w ∧ RelV s r x := by
  unfold loadA at h
  simp only [Option.bind_eq_some_iff] at h
  obtain ⟨row, hrow, ag, hag, sz, hsz, h⟩ := h
  obtain ⟨b, o, rfl, hc⟩ := rowAtA_rel H hu hrow
  have hia := run_isAgg hag s.w
  have his := run_sizeOf' hsz s.w
  cases ag with
  | true =>
    simp only [if_true] at h
    split at h
    · rename_i hle
      cases h
      have hx : ∀ j, j < sz → ∃ x, s.w.cell? ⟨b, o + j, none⟩ = some x ∧ ∀ c, row[j]? = some c → RelC s c x := by
        intro j hj
        obtain ⟨x, h1, h2⟩ := hc j row[j] (by simp)
        exact ⟨x, h1, fun c hc' => by
          have : row[j] = c := by rw [List.getElem?_eq_getElem (by omega)] at hc'; exact Option.some.inj hc'
          rw [← this]; exact h2⟩
      have hl := run_loadCells (P := P) s.w ⟨b, o, none⟩ sz (fun j => (s.w.cell? ⟨b, o + j, none⟩).getD undef) (fun j hj => by
        obtain ⟨x, h1, _⟩ := hx j hj
        rw [Addr.add_lit, h1]; rfl)
      refine ⟨.agg ((List.range sz).map fun j => (s.w.cell? ⟨b, o + j, none⟩).getD undef).toArray, ?_, _, rfl, ?_⟩
      · simp [Instr.loadAt, Instr.sureAddr, loadVar, hia, his, hl]
      · refine ⟨by simp [Nat.min_eq_left hle], fun j c hj => ?_⟩
        rw [List.getElem?_take] at hj
        split at hj
        · rename_i hjs
          obtain ⟨x, h1, h2⟩ := hx j hjs
          exact ⟨x, by simp [hjs, h1], h2 c hj⟩
        · cases hj
    · cases h
  | false =>
    simp only [Bool.false_eq_true, if_false, Option.map_eq_some_iff] at h
    obtain ⟨c, h0, rfl⟩ := h
    obtain ⟨x, h1, h2⟩ := hc 0 c h0
    refine ⟨x, ?_, h2⟩
    have h1' : s.w.cell? ⟨b, o, none⟩ = some x := h1
    simp [Instr.loadAt, Instr.sureAddr, loadVar, hia, load, Sem.run, h1']
def shiftA (n : Nat) : AV → Option AV
  | .one (.box b o) => some (.one (.box b (o + n)))
  | .one (.ix row o) => some (.one (.ix row (o + n)))
  | .one (.p (.ptr row)) => some (.one (.ix row n))
  | .one (.oix t i o) => some (.one (.oix t i (o + n)))
  | _ => none
theorem shiftA_rel {s : Sit} {av r : AV} {u : Value} {n : Nat} (hu : RelV s av u) (h : shiftA n av = some r) (hsh : ∀ t i o, av = .one (.oix t i o) → ∃ E k rows, s.h t = some (.arr E k rows false)) :
    ∃ b o, u = .pointer (some ⟨b, o, none⟩) ∧ RelV s r (.pointer (some ⟨b, o + n, none⟩)) := by
  unfold shiftA at h
  split at h
  · cases h
    obtain ⟨cs, blk, h1, h2, rfl⟩ := hu
    exact ⟨blk, _, rfl, cs, blk, h1, h2, rfl⟩
  · cases h
    obtain ⟨b, off, us, rfl, hu⟩ := hu
    exact ⟨b, _, rfl, b, off, us, by rw [Nat.add_assoc], hu⟩
  · cases h
    cases hu with
    | ptr _ b off us hc hz hrr => exact ⟨b, off, rfl, b, off, us, rfl, fun j c hj => ⟨hz j c hj, hc j c hj, hrr j c hj⟩⟩
  · cases h
    rename_i t i o
    obtain ⟨E, k, rows, h0⟩ := hsh t i o rfl
    obtain ⟨E', k', rows', sh, l, h1, h2, h3, _, h4⟩ := hu
    rw [h0] at h1; cases h1
    obtain ⟨blk, hb, rfl⟩ := h4 rfl
    exact ⟨blk, _, rfl, E, k, rows, false, l, h0, h2, h3, rfl, fun _ => ⟨blk, hb, by rw [Nat.add_assoc]⟩⟩
  · cases h
def unshA (h : Nat → Option Obj') : AV → Bool
  | .one (.oix t _ _) => match h t with | some (.arr _ _ _ false) => true | _ => false
  | _ => true
theorem unshA_spec {h : Nat → Option Obj'} {av : AV} (hu : unshA h av = true) : ∀ t i o, av = .one (.oix t i o) → ∃ E k rows, h t = some (.arr E k rows false) := by
  rintro t i o rfl
  simp only [unshA] at hu
  split at hu
  · exact ⟨_, _, _, ‹_›⟩
  · cases hu
def fieldAddrA (P : Program) (h : Nat → Option Obj') (t : TypeId) (f : Nat) (av : AV) : Option AV :=
  (fldOf P t f).bind fun (off, sz, _) => if sz ≠ 0 ∧ unshA h av = true then shiftA off av else none
theorem fieldAddrA_run {P : Program} {s : Sit} {t : TypeId} {f : Nat} {av r : AV} {u : Value} (hu : RelV s av u) (h : fieldAddrA P s.h t f av = some r) : ∃ x, (Instr.fieldAt t u f).run P s.w = .ok x s.w ∧ RelV s r x := by
  unfold fieldAddrA at h
  simp only [Option.bind_eq_some_iff] at h
  obtain ⟨⟨off, sz, ag⟩, hf, h⟩ := h
  unfold fldOf at hf
  split at hf
  · rename_i fs hd
    simp only [Option.bind_eq_some_iff] at hf
    obtain ⟨fd, hfd, sz', hsz, ag', hag, hf⟩ := hf
    cases hf
    split at h
    · rename_i hc
      obtain ⟨b, o, rfl, hr⟩ := shiftA_rel hu h (unshA_spec hc.2)
      refine ⟨_, ?_, hr⟩
      have := run_sizeOf' hsz s.w
      simp [Instr.fieldAt, run_underlying hd, hfd, Instr.sureAddr, fieldPlace, this, hc.1, Addr.add_lit]
    · cases h
  · cases hf
def fieldA (P : Program) (t : TypeId) (f : Nat) : AV → Option AV
  | .agg cs => (fldOf P t f).bind fun (off, sz, ag) => if ag then (if off + sz ≤ cs.length then some (.agg ((cs.drop off).take sz)) else none) else (cs[off]?).map .one
  | _ => none
theorem part_run {P : Program} {s : Sit} {t : TypeId} {cs : List AC} {us : Array Value} (hr : RelCs s cs us) {off sz : Nat} {ag : Bool} (hag : tyAgg P t = some ag) (hsz : tySize P t = some sz) {r : AV}
    (h : (if ag then (if off + sz ≤ cs.length then some (AV.agg ((cs.drop off).take sz)) else none) else (cs[off]?).map .one) = some r) : ∃ x, (part t us off).run P s.w = .ok x s.w ∧ RelV s r x := by
  have hia := run_isAgg hag s.w
  have his := run_sizeOf' hsz s.w
  cases ag with
  | true =>
    simp only [if_true] at h
    split at h
    · rename_i hle
      cases h
      refine ⟨.agg (us.extract off (off + sz)), by simp [part, hia, his], _, rfl, ?_⟩
      have hs := hr.1
      refine ⟨by simp; omega, fun j c hj => ?_⟩
      rw [List.getElem?_take] at hj
      split at hj
      · rename_i hjs
        rw [List.getElem?_drop] at hj
        obtain ⟨x, hx, hrx⟩ := hr.2 _ c hj
        refine ⟨x, ?_, hrx⟩
        rw [Array.getElem?_extract]
        rw [if_pos (by omega)]; exact hx
      · cases hj
    · cases h
  | false =>
    simp only [Bool.false_eq_true, if_false, Option.map_eq_some_iff] at h
    obtain ⟨c, hc, rfl⟩ := h
    obtain ⟨x, hx, hrx⟩ := hr.2 _ c hc
    exact ⟨x, by simp [part, hia, hx], hrx⟩
theorem fieldA_run {P : Program} {s : Sit} {t : TypeId} {f : Nat} {av r : AV} {u : Value} (hu : RelV s av u) (h : fieldA P t f av = some r) : ∃ x, (Instr.field t u f).run P s.w = .ok x s.w ∧ RelV s r x := by
  unfold fieldA at h
  split at h
  · rename_i cs
    obtain ⟨us, rfl, hr⟩ := hu
    simp only [Option.bind_eq_some_iff] at h
    obtain ⟨⟨off, sz, ag⟩, hf, h⟩ := h
    unfold fldOf at hf
    split at hf
    · rename_i fs hd
      simp only [Option.bind_eq_some_iff] at hf
      obtain ⟨fd, hfd, sz', hsz, ag', hag, hf⟩ := hf
      cases hf
      obtain ⟨x, hx, hrx⟩ := part_run hr hag hsz h
      exact ⟨x, by simp [Instr.field, run_underlying hd, hfd, asAgg, hx], hrx⟩
    · cases hf
  · cases h
end Go.Pv
namespace Go.Pv
open Go Go.RowKit Go.Sh
variable {P : Program} {s : Sit}
def intOfA (av : AV) : Option Int := match plainOf av with | some (.int _ i) => some i | _ => none
theorem intOfA_rel {av : AV} {u : Value} {i : Int} (h : RelV s av u) (hi : intOfA av = some i) : ∃ k, u = .int k i := by
  unfold intOfA at hi
  split at hi
  · cases hi; exact ⟨_, plainOf_rel h ‹_›⟩
  · cases hi
def indexAddrA (P : Program) (h : Nat → Option Obj') (T : TypeId) (x iv : AV) : Option AV :=
  (intOfA iv).bind fun i =>
  match sliceElem P T with
  | some e => (tySize P e).bind fun es =>
    match x with
    | .one (.own t n) =>
      match h t with
      | some (.arr _ k rows sh) =>
        if 0 ≤ i ∧ i < n ∧ k = es then
          (if sh = true then (rows[i.toNat]?).map fun r => .one (.ix r 0) else if n = rows.length then some (.one (.oix t i.toNat 0)) else none)
        else none
      | _ => none
    | .one (.p (.sl rows)) => if 0 ≤ i ∧ i < rows.length then (rows[i.toNat]?).bind fun r => if r.length = es then some (.one (.ix r 0)) else none else none
    | _ => none
  | none =>
    match arrElem P T with
    | some (len, e) => (tySize P e).bind fun es => if 0 ≤ i ∧ i < len ∧ unshA h x = true then shiftA (i.toNat * es) x else none
    | none => none
theorem underlying_slice {T e : TypeId} (h : sliceElem P T = some e) : P.underlying T = some (.slice e) := by
  unfold sliceElem at h
  split at h
  · cases h; assumption
  · cases h
theorem underlying_arr {T : TypeId} {n : Nat} {e : TypeId} (h : arrElem P T = some (n, e)) : P.underlying T = some (.array n e) := by
  unfold arrElem at h
  split at h
  · cases h; assumption
  · cases h
theorem relP_row {Z : Zn} {w : World} {rows : List (List PV)} {u : Value} (h : RelP Z w (.sl rows) u) {i : Nat} {r : List PV} (hi : rows[i]? = some r) :
    ∃ b off cap, u = .slice (some ⟨b, off, none⟩) rows.length cap ∧ ∃ us : Nat → Value, ∀ (j : Nat) (c : PV), r[j]? = some c → Z b (off + i * r.length + j) ∧ w.cell? ⟨b, off + i * r.length + j, none⟩ = some (us j) ∧ RelP Z w c (us j) := by
  cases h with
  | sl _ k ao cap b off us hm hk hao hc hz hr =>
    have hne : rows ≠ [] := by rintro rfl; simp at hi
    have := hk i r hi
    subst this
    exact ⟨b, off, cap, by rw [hao hne], us i, fun j c hj => ⟨hz i r j c hi hj, hc i r j c hi hj, hr i r j c hi hj⟩⟩
theorem RelP.len {Z : Zn} {w : World} {rows : List (List PV)} {u : Value} (h : RelP Z w (.sl rows) u) : ∃ ao cap, u = .slice ao rows.length cap := by
  cases h with
  | sl _ k ao cap b off us hm hk hao hc hz hr => exact ⟨ao, cap, rfl⟩
theorem own_cases (H : Heap0 s) {t n : Nat} {u : Value} (h : RelC s (.own t n) u) : ∃ E k rows sh val xs, s.h t = some (.arr E k rows sh) ∧ s.σ t = some val ∧ s.w.ownsRow s.base E k val rows.length xs ∧ rowsK k rows ∧ Cellwise s.Safe s.w k rows xs ∧ n ≤ rows.length ∧
    ((n = rows.length ∧ u = val) ∨ (n < rows.length ∧ (sh = true ∨ n = 0) ∧ RelP s.Safe s.w (.sl (rows.take n)) u)) := by
  obtain ⟨E, k, rows, sh, l, h1, h2, hn, h3, h8⟩ := h
  obtain ⟨val, xs, h4, h5, h6, h7⟩ := H.objs _ _ h1
  rw [h2] at h4; cases h4
  refine ⟨E, k, rows, sh, l, xs, h1, h2, h5, h6, h7, hn, ?_⟩
  rcases Nat.lt_or_eq_of_le hn with hlt | heq
  · exact .inr ⟨hlt, h8 hlt⟩
  · exact .inl ⟨heq, h3 heq⟩
theorem own_shared (H : Heap0 s) {t : Nat} {E : TypeId} {k : Nat} {rows : List (List PV)} (h1 : s.h t = some (.arr E k rows true)) {val : Value} {xs : List Value} (h2 : s.σ t = some val) (h3 : s.w.ownsRow s.base E k val rows.length xs) (hk : rowsK k rows) (hc : Cellwise s.Safe s.w k rows xs) :
    RelP s.Safe s.w (.sl rows) val := by
  refine relP_own h3 hk hc fun b hb c hlt => ⟨.inr (h3.lt b hb).1, fun i l hi hl => ?_⟩
  have : i = t := H.inj i t l val b hi h2 hl (by rw [locBlk_own h3]; exact hb)
  subst this
  exact ⟨E, k, rows, h1, hlt⟩
theorem relP_take {Z : Zn} {w : World} {rows : List (List PV)} {u : Value} (h : RelP Z w (.sl rows) u) : RelP Z w (.sl (rows.take rows.length)) u := by rw [List.take_length]; exact h
theorem indexAddrA_run (H : Heap0 s) {T : TypeId} {x iv r : AV} {u ui : Value} (hu : RelV s x u) (hi : RelV s iv ui) (h : indexAddrA P s.h T x iv = some r) : ∃ v, (Instr.indexAt T u ui).run P s.w = .ok v s.w ∧ RelV s r v := by
  unfold indexAddrA at h
  simp only [Option.bind_eq_some_iff] at h
  obtain ⟨i, hi0, h⟩ := h
  obtain ⟨ik, rfl⟩ := intOfA_rel hi hi0
  split at h
  · rename_i e he
    have hd := underlying_slice he
    simp only [Option.bind_eq_some_iff] at h
    obtain ⟨es, hes, h⟩ := h
    have hsz := run_sizeOf' hes s.w
    split at h
    · rename_i t n
      split at h
      · rename_i E0 k rows sh hh
        split at h
        · rename_i hc
          obtain ⟨hc1, hc2, rfl⟩ := hc
          obtain ⟨E, k', rows', sh', val, xs, h1, h2, h3, h4, h5, h6, h7⟩ := own_cases H hu
          rw [hh] at h1; cases h1
          have hrun : ∀ b off cap, u = .slice (some ⟨b, off, none⟩) n cap → (Instr.indexAt T u (.int ik i)).run P s.w = .ok (.pointer (some ⟨b, off + i.toNat * k, none⟩)) s.w := by
            rintro b off cap rfl
            simp [Instr.indexAt, asIntOf, run_underlying hd, hc1, hc2, hsz, Addr.add_lit]
          split at h
          · rename_i hsh
            subst hsh
            simp only [Option.map_eq_some_iff] at h
            obtain ⟨row, hrow, rfl⟩ := h
            have hlt : i.toNat < n := by omega
            have hp : RelP s.Safe s.w (.sl (rows.take n)) u := by
              rcases h7 with ⟨rfl, rfl⟩ | ⟨_, _, h7⟩
              · exact relP_take (own_shared H hh h2 h3 h4 h5)
              · exact h7
            have hrow' : (rows.take n)[i.toNat]? = some row := by rw [List.getElem?_take, if_pos hlt]; exact hrow
            obtain ⟨b, off, cap, hue, us, hus⟩ := relP_row hp hrow'
            have hlen : (rows.take n).length = n := by simp; omega
            rw [hlen] at hue
            have hrl := h4 _ _ hrow
            refine ⟨_, hrun b off cap hue, b, off + i.toNat * k, us, by rw [Nat.add_zero], fun j c hj => ?_⟩
            have := hus j c hj
            rw [hrl] at this
            exact this
          · rename_i hsh
            split at h
            · rename_i hn
              cases h
              have hsh' : sh = false := by simpa using hsh
              subst hsh'
              have hlt : i.toNat < n := by omega
              have hval : u = val := by
                rcases h7 with ⟨_, h7⟩ | ⟨h7, _⟩
                · exact h7
                · omega
              subst hval
              rcases h3.2 with ⟨_, h0⟩ | ⟨g, cap, cur, rfl, hbg, hg, hnc, _⟩
              · omega
              · refine ⟨_, hrun g 0 cap (by rw [hn]), _, k, rows, false, _, hh, h2, by omega, rfl, fun _ => ⟨g, rfl, by simp⟩⟩
            · cases h
        · cases h
      · cases h
    · rename_i rows
      split at h
      · rename_i hc
        simp only [Option.bind_eq_some_iff] at h
        obtain ⟨row, hrow, h⟩ := h
        split at h
        · rename_i hl
          cases h
          obtain ⟨b, off, cap, rfl, us, hus⟩ := relP_row hu hrow
          refine ⟨.pointer (some ⟨b, off + i.toNat * es, none⟩), ?_, b, off + i.toNat * es, us, by rw [Nat.add_zero], fun j c hj => ?_⟩
          · simp [Instr.indexAt, asIntOf, run_underlying hd, hc.1, hc.2, hsz, Addr.add_lit]
          · have := hus j c hj
            rw [hl] at this
            exact this
        · cases h
      · cases h
    · cases h
  · split at h
    · rename_i len e he
      have hd := underlying_arr he
      simp only [Option.bind_eq_some_iff] at h
      obtain ⟨es, hes, h⟩ := h
      have hsz := run_sizeOf' hes s.w
      split at h
      · rename_i hc
        obtain ⟨b, o, rfl, hr⟩ := shiftA_rel hu h (unshA_spec hc.2.2)
        refine ⟨_, ?_, hr⟩
        simp [Instr.indexAt, asIntOf, run_underlying hd, Instr.sureAddr, hc.1, hc.2.1, hsz, Addr.add_lit]
      · cases h
    · cases h
def indexA (P : Program) (T : TypeId) (x iv : AV) : Option AV :=
  (intOfA iv).bind fun i =>
  match arrElem P T, x with
  | some (len, e), .agg cs => (tyAgg P e).bind fun ag => (tySize P e).bind fun es => if 0 ≤ i ∧ i < len then
      (if ag then (if i.toNat * es + es ≤ cs.length then some (AV.agg ((cs.drop (i.toNat * es)).take es)) else none) else (cs[i.toNat * es]?).map .one) else none
  | _, _ => none
theorem indexA_run {T : TypeId} {x iv r : AV} {u ui : Value} (hu : RelV s x u) (hi : RelV s iv ui) (h : indexA P T x iv = some r) : ∃ v, (Instr.index T u ui).run P s.w = .ok v s.w ∧ RelV s r v := by
  unfold indexA at h
  simp only [Option.bind_eq_some_iff] at h
  obtain ⟨i, hi0, h⟩ := h
  obtain ⟨ik, rfl⟩ := intOfA_rel hi hi0
  split at h
  · rename_i len e cs he
    have hd := underlying_arr he
    simp only [Option.bind_eq_some_iff] at h
    obtain ⟨ag, hag, es, hes, h⟩ := h
    split at h
    · rename_i hc
      obtain ⟨us, rfl, hr⟩ := hu
      obtain ⟨v, hv, hrv⟩ := part_run hr hag hes h
      refine ⟨v, ?_, hrv⟩
      have hsz := run_sizeOf' hes s.w
      simp [Instr.index, asIntOf, run_underlying hd, hc.1, hc.2, hsz, hv]
    · cases h
  · cases h
def lenA : AV → Option Nat
  | .one (.own _ n) => some n
  | .one (.p (.sl rows)) => some rows.length
  | .one .nil => some 0
  | _ => none
theorem lenA_rel (H : Heap0 s) {x : AV} {u : Value} {n : Nat} (hu : RelV s x u) (h : lenA x = some n) : ∃ ao cap, u = .slice ao n cap := by
  unfold lenA at h
  split at h
  · cases h
    obtain ⟨E, k, rows, sh, val, xs, h1, h2, h3, h4, h5, h6, h7⟩ := own_cases H hu
    rcases h7 with ⟨rfl, rfl⟩ | ⟨_, _, h7⟩
    · rcases h3.2 with ⟨rfl, h0⟩ | ⟨g, cap, cur, rfl, _⟩
      · rw [h0]; exact ⟨_, _, rfl⟩
      · exact ⟨_, _, rfl⟩
    · obtain ⟨ao, cap, h⟩ := h7.len
      exact ⟨ao, cap, by rw [h]; congr 1; simp; omega⟩
  · cases h; exact hu.len
  · cases h; exact ⟨_, _, hu⟩
  · cases h
def avR : RV → AV
  | .one x => .one (.p x)
  | .agg cs => .agg (cs.map .p)
theorem avR_rel {r : RV} {u : Value} (h : RelR s.Safe s.w r u) : RelV s (avR r) u := by
  cases r with
  | one x => exact h
  | agg cs =>
    obtain ⟨us, rfl, hs, h⟩ := h
    refine ⟨us, rfl, by simpa using hs, fun j c hj => ?_⟩
    rw [List.getElem?_map] at hj
    cases hq : cs[j]? with
    | none => rw [hq] at hj; cases hj
    | some c0 => rw [hq] at hj; cases hj; exact h j c0 hq
def extractA (i : Nat) : AV → Option AV
  | .tup rs => (rs[i]?).map avR
  | _ => none
theorem extractA_run {x r : AV} {u : Value} {i : Nat} (hu : RelV s x u) (h : extractA i x = some r) : ∃ v, (Instr.extract u i).run P s.w = .ok v s.w ∧ RelV s r v := by
  unfold extractA at h
  split at h
  · rename_i rs
    simp only [Option.map_eq_some_iff] at h
    obtain ⟨r0, h0, rfl⟩ := h
    obtain ⟨us, rfl, hs, hr⟩ := hu
    obtain ⟨v, hv, hrv⟩ := hr i r0 h0
    exact ⟨v, by simp [Instr.extract, hv], avR_rel hrv⟩
  · cases h
def spl {α : Type} (cs : List α) (o : Nat) (vs : List α) : List α := cs.take o ++ vs ++ cs.drop (o + vs.length)
theorem spl_get {α : Type} {cs : List α} {o : Nat} {vs : List α} (h : o + vs.length ≤ cs.length) (j : Nat) : (spl cs o vs)[j]? = if o ≤ j ∧ j < o + vs.length then vs[j - o]? else cs[j]? := by
  unfold spl
  have h1 : (cs.take o).length = o := by simp; omega
  by_cases hj : j < o
  · rw [if_neg (by omega), List.append_assoc, List.getElem?_append_left (by omega), List.getElem?_take, if_pos hj]
  · by_cases hj2 : j < o + vs.length
    · rw [if_pos ⟨by omega, hj2⟩, List.append_assoc, List.getElem?_append_right (by omega), List.getElem?_append_left (by omega), h1]
    · rw [if_neg (by omega), List.getElem?_append_right (by simp; omega), List.getElem?_drop]
      congr 1
      simp; omega
theorem spl_length {α : Type} {cs : List α} {o : Nat} {vs : List α} (h : o + vs.length ≤ cs.length) : (spl cs o vs).length = cs.length := by
  unfold spl; simp; omega
theorem relCs_spl {cs vs : List AC} {us : Array Value} {xs : List Value} {o : Nat} (h1 : RelCs s cs us) (h2 : RelCs s vs xs.toArray) (h : o + vs.length ≤ cs.length) : RelCs s (spl cs o vs) (spl us.toList o xs).toArray := by
  have hx : xs.length = vs.length := by simpa using h2.1
  have hu := h1.1
  refine ⟨by simp only [List.size_toArray]; rw [spl_length (by simp; omega), spl_length h]; simpa using hu, fun j c hj => ?_⟩
  rw [spl_get h] at hj
  simp only [List.getElem?_toArray]
  rw [spl_get (by simp; omega), hx]
  split at hj
  · rename_i hc
    rw [if_pos hc]
    obtain ⟨x, hx, hr⟩ := h2.2 _ c hj
    exact ⟨x, by simpa using hx, hr⟩
  · rename_i hc
    rw [if_neg hc]
    obtain ⟨x, hx, hr⟩ := h1.2 _ c hj
    exact ⟨x, by simpa using hx, hr⟩
def acP : AC → Option PV
  | .p x => some x
  | _ => none
theorem acP_rel {s : Sit} {c : AC} {u : Value} {x : PV} (h : RelC s c u) (hx : acP c = some x) : RelP s.Safe s.w x u := by
  unfold acP at hx
  split at hx
  · cases hx; exact h
  · cases hx
def storeA (P : Program) (h : Nat → Option Obj') (T : TypeId) (a v : AV) : Option (Nat × Obj') :=
  (tySize P T).bind fun sz => (cellsA v).bind fun vs =>
  match a with
  | .one (.box b o) => match h b with
    | some (.box cs) => if vs.length = sz ∧ o + vs.length ≤ cs.length then some (b, .box (spl cs o vs)) else none
    | _ => none
  | .one (.oix t i o) => match h t with
    | some (.arr E k rows false) => (vs.mapM acP).bind fun ps => (rows[i]?).bind fun r => if ps.length = sz ∧ o + ps.length ≤ k then some (t, .arr E k (rows.set i (spl r o ps)) false) else none
    | _ => none
  | _ => none
theorem setRow_size (w : World) (g : Nat) (cs : Array Value) : (w.setRow g cs).heap.size = w.heap.size := by simp [World.setRow]
def DfrAt (w : World) (D : Nat) : Prop := w.heap[D]? = some (Obj.deferred (some []))
theorem dfr_kept {w w' : World} (h : ∀ k, k < w.heap.size → w'.heap[k]? = w.heap[k]?) : ∀ D, DfrAt w D → DfrAt w' D := by
  intro D hD
  unfold DfrAt at hD ⊢
  rw [h D (Array.getElem?_eq_some_iff.1 hD).1]; exact hD
structure Put (s : Sit) (id : Nat) (o' : Obj') (l' : Value) (w' : World) : Prop where
  heap : Heap0 (s.put id o' l' w')
  ext : Ext s (s.put id o' l' w')
  fr : ∀ k, k < s.w.heap.size → (∀ l, s.σ id = some l → locBlk l ≠ some k) → w'.heap[k]? = s.w.heap[k]?
  size : s.w.heap.size ≤ w'.heap.size
  os : w'.os = s.w.os
  tape : w'.tape = s.w.tape
  output : w'.output = s.w.output
theorem storeA_run (H : Heap0 s) {T : TypeId} {a v : AV} {u x : Value} {id : Nat} {o' : Obj'} (hu : RelV s a u) (hx : RelV s v x) (h : storeA P s.h T a v = some (id, o')) :
    ∃ l' w', (Instr.storeAt T u x).run P s.w = .ok () w' ∧ Put s id o' l' w' := by
  unfold storeA at h
  simp only [Option.bind_eq_some_iff] at h
  obtain ⟨sz, hsz, vs, hvs, h⟩ := h
  split at h
  · rename_i b o
    split at h
    · rename_i cs hb
      split at h
      · rename_i hc
        cases h
        obtain ⟨cs0, blk, h1, h2, rfl⟩ := hu
        rw [hb] at h1; cases h1
        obtain ⟨blk', us, ty, h3, h4, h5⟩ := H.objs _ _ hb
        rw [h2] at h3; cases h3
        have hrel := cellsA_rel H hx hvs
        have hsz' := run_sizeOf' hsz s.w
        have hlen : x.cells.toList.length = vs.length := by simpa using hrel.1
        have hone : ∀ y ∈ x.cells.toList, y.oneCell' = true := by
          intro y hy
          obtain ⟨j, hj⟩ := List.mem_iff_getElem?.1 hy
          have hjl : j < vs.length := by rw [← hlen]; exact (List.getElem?_eq_some_iff.1 hj).1
          obtain ⟨y', h6, h7⟩ := hrel.2 j vs[j] (by simp)
          have : y = y' := by
            rw [Array.getElem?_toList] at hj
            rw [hj] at h6; exact Option.some.inj h6
          rw [this]; exact h7.one H
        have hus := h5.1
        have hst := run_storeCells_at P blk o ty x.cells.toList 0 us s.w h4 (by rw [hlen, hus]; omega) hone
        simp only [Nat.add_zero] at hst
        have hspl : us.toList.take o ++ x.cells.toList ++ us.toList.drop (o + x.cells.toList.length) = spl us.toList o x.cells.toList := rfl
        rw [hspl] at hst
        have hne : ¬ (x.cells.size ≠ sz) := by
          have := hrel.1; omega
        obtain ⟨p1, p2⟩ := set_box H hb (cs' := spl cs o vs) (vs' := (spl us.toList o x.cells.toList).toArray) h2 (setRow_size s.w blk _) (fun k hk => setRow_other s.w blk k _ hk) (setRow_heap s.w blk us _ ty _ h4) (relCs_spl h5 (by simpa using hrel) hc.2)
        refine ⟨_, _, ?_, p1, p2, fun k hk hl => setRow_other s.w blk k _ (fun e => hl _ h2 (by rw [e]; rfl)), by rw [setRow_size]; exact Nat.le_refl _, rfl, rfl, rfl⟩
        have hsz2 : x.cells.size = sz := by have := hrel.1; omega
        simp [Instr.storeAt, Instr.sureAddr, storeVar, hsz', hsz2, hst]
      · cases h
    · cases h
  · rename_i t i o
    split at h
    · rename_i E k rows ht
      simp only [Option.bind_eq_some_iff] at h
      obtain ⟨ps, hps, r, hri, h⟩ := h
      split at h
      · rename_i hc
        cases h
        obtain ⟨E', k', rows', sh, l, h1, h2, h3, _, h4⟩ := hu
        rw [ht] at h1; cases h1
        obtain ⟨blk, hblk, rfl⟩ := h4 rfl
        obtain ⟨val, xs, h5, h6, h7, h8⟩ := H.objs _ _ ht
        rw [h2] at h5; cases h5
        have hv := locBlk_own h6
        have hob : l.ownBlock = some blk := by rw [← hv]; exact hblk
        obtain ⟨hlen, h6'⟩ := h6
        rcases h6' with ⟨rfl, _⟩ | ⟨g, cap, cur, rfl, hbg, hg, hcap, hmax, hcur, htk⟩
        · cases hob
        · have hgb : g = blk := by simpa [Value.ownBlock] using hob
          subst hgb
          have hrel := cellsA_rel H hx hvs
          have hsz' := run_sizeOf' hsz s.w
          obtain ⟨hpl, hpe⟩ := mapM_get hps
          have hlenx : x.cells.toList.length = ps.length := by rw [hpl]; simpa using hrel.1
          have hcell : ∀ (j : Nat) (p : PV), ps[j]? = some p → ∃ y, x.cells.toList[j]? = some y ∧ RelP s.Safe s.w p y := by
            intro j p hj
            obtain ⟨c, hc1, hc2⟩ := hpe j p hj
            obtain ⟨y, hy, hry⟩ := hrel.2 j c hc1
            exact ⟨y, by simpa using hy, acP_rel hry hc2⟩
          have hone : ∀ y ∈ x.cells.toList, y.oneCell' = true := by
            intro y hy
            obtain ⟨j, hj⟩ := List.mem_iff_getElem?.1 hy
            have hjl : j < ps.length := by rw [← hlenx]; exact (List.getElem?_eq_some_iff.1 hj).1
            obtain ⟨y', e1, e2⟩ := hcell j ps[j] (by simp)
            rw [hj] at e1; cases e1
            exact e2.one
          have hil : i < rows.length := h3
          have hrk : r.length = k := h7 i r hri
          have hik : i * k + k ≤ rows.length * k := by
            have : (i + 1) * k ≤ rows.length * k := Nat.mul_le_mul_right k hil
            rw [Nat.add_mul, Nat.one_mul] at this; exact this
          have hck : rows.length * k ≤ cap * k := Nat.mul_le_mul_right k hcap
          have hst := run_storeCells_at P g (i * k + o) E x.cells.toList 0 cur s.w hg (by rw [hlenx, hcur]; omega) hone
          simp only [Nat.add_zero] at hst
          have hspl : cur.toList.take (i * k + o) ++ x.cells.toList ++ cur.toList.drop (i * k + o + x.cells.toList.length) = spl cur.toList (i * k + o) x.cells.toList := rfl
          rw [hspl] at hst
          have hspll : (spl cur.toList (i * k + o) x.cells.toList).length = cur.toList.length := spl_length (by rw [hlenx]; simp [hcur]; omega)
          have hrl : (rows.set i (spl r o ps)).length = rows.length := by simp
          have hown : (s.w.setRow g (spl cur.toList (i * k + o) x.cells.toList).toArray).ownsRow s.base E k (.slice (some ⟨g, 0, none⟩) rows.length cap) (rows.set i (spl r o ps)).length ((spl cur.toList (i * k + o) x.cells.toList).take (rows.length * k)) := by
            rw [hrl]
            refine ⟨by rw [List.length_take, hspll]; have : cur.toList.length = cap * k := by simpa using hcur
                       rw [this]; exact Nat.min_eq_left hck, .inr ⟨g, cap, _, rfl, hbg, setRow_heap s.w g cur _ E _ hg, hcap, hmax, by rw [List.size_toArray, hspll]; simpa using hcur, by simp⟩⟩
          have hrowk : rowsK k (rows.set i (spl r o ps)) := by
            intro j row hj
            rw [List.getElem?_set] at hj
            by_cases hij : i = j
            · rw [if_pos hij, if_pos hil] at hj
              cases hj; rw [spl_length (by omega)]; exact hrk
            · rw [if_neg hij] at hj; exact h7 j row hj
          have hcw : Cellwise s.Safe s.w k (rows.set i (spl r o ps)) ((spl cur.toList (i * k + o) x.cells.toList).take (rows.length * k)) := by
            intro j row q c hj hq
            have hjl : j < rows.length := by rw [← hrl]; exact (List.getElem?_eq_some_iff.1 hj).1
            have hqk : q < k := by rw [← hrowk j row hj]; exact (List.getElem?_eq_some_iff.1 hq).1
            have hjk : j * k + k ≤ rows.length * k := by
              have : (j + 1) * k ≤ rows.length * k := Nat.mul_le_mul_right k hjl
              rw [Nat.add_mul, Nat.one_mul] at this; exact this
            rw [List.getElem?_take, if_pos (by omega), spl_get (by rw [hlenx]; simp [hcur]; omega), hlenx]
            have hold : ∀ row0, rows[j]? = some row0 → row0[q]? = some c → ∃ u, cur.toList[j * k + q]? = some u ∧ RelP s.Safe s.w c u := by
              intro row0 hj0 hq0
              obtain ⟨u, hu1, hu2⟩ := h8 j row0 q c hj0 hq0
              refine ⟨u, ?_, hu2⟩
              rw [← htk, List.getElem?_take, if_pos (by omega)] at hu1
              exact hu1
            rw [List.getElem?_set] at hj
            by_cases hij : i = j
            · subst hij
              rw [if_pos rfl, if_pos hil] at hj
              cases hj
              rw [spl_get (by omega)] at hq
              by_cases hin : o ≤ q ∧ q < o + ps.length
              · rw [if_pos hin] at hq
                rw [if_pos (by omega), show i * k + q - (i * k + o) = q - o by omega]
                exact hcell _ c hq
              · rw [if_neg hin] at hq
                rw [if_neg (by omega)]
                exact hold r hri hq
            · rw [if_neg hij] at hj
              have hno : ¬ (i * k + o ≤ j * k + q ∧ j * k + q < i * k + o + ps.length) := by
                rcases Nat.lt_or_ge j i with hlt | hge
                · have : (j + 1) * k ≤ i * k := Nat.mul_le_mul_right k hlt
                  rw [Nat.add_mul, Nat.one_mul] at this; omega
                · have : (i + 1) * k ≤ j * k := Nat.mul_le_mul_right k (show i + 1 ≤ j by omega)
                  rw [Nat.add_mul, Nat.one_mul] at this; omega
              rw [if_neg hno]
              exact hold row hj hq
          obtain ⟨p1, p2⟩ := set_arr H ht h2 (setRow_size s.w g _) (fun b hb => setRow_other s.w g b _ (hb g rfl)) hv hown hrl hrowk hcw
          refine ⟨_, _, ?_, p1, p2, fun b hb hl => setRow_other s.w g b _ (fun e => hl _ h2 (by rw [e]; rfl)), by rw [setRow_size]; exact Nat.le_refl _, rfl, rfl, rfl⟩
          have hsz2 : x.cells.size = sz := by have := hrel.1; rw [hpl] at hc; omega
          simp [Instr.storeAt, Instr.sureAddr, storeVar, hsz', hsz2, hst]
      · cases h
    · cases h
  · cases h
theorem Put.dfr {s : Sit} {id : Nat} {o' : Obj'} {l' : Value} {w' : World} (H : Heap0 s) (h : Put s id o' l' w') : ∀ D, DfrAt s.w D → DfrAt w' D := by
  intro D hD
  unfold DfrAt at hD ⊢
  rw [h.fr D (Array.getElem?_eq_some_iff.1 hD).1 fun l hl hb => ?_]
  · exact hD
  · rcases H.cellsAt hl hb with ⟨cs, t, fz, hc⟩ | ⟨es, ck, hc⟩ | ⟨r, hc⟩ | ⟨_, _, _, _, hc⟩
    · rw [hD] at hc; cases hc
    · rw [hD] at hc; cases hc
    · rw [hD] at hc; cases hc
    · rw [hD] at hc; cases hc
theorem Turn.put {id : Nat} {o' : Obj'} {l' : Value} {w' : World} (h1 : Heap0 (s.put id o' l' w')) (h2 : Ext s (s.put id o' l' w')) (hg : ∀ k, k < s.w.heap.size → w'.heap[k]? = s.w.heap[k]?) (hs : s.w.heap.size ≤ w'.heap.size) (ho : w'.os = s.w.os) (ht : w'.tape = s.w.tape) (hp : w'.output = s.w.output) : Put s id o' l' w' :=
  ⟨h1, h2, fun k hk _ => hg k hk, hs, ho, ht, hp⟩
theorem box_put (H : Heap0 s) {id : Nat} (hid : s.σ id = none) (hbase : s.base ≤ s.w.heap.size) {cs : List AC} {vs : Array Value} (hr : RelCs s cs vs) (ty : TypeId) : Put s id (.box cs) (.pointer (some ⟨s.w.heap.size, 0, none⟩)) (s.w.alloc (.cells vs ty (0, 0))) :=
  let ⟨p1, p2⟩ := new_box H hid hbase hr ty
  Turn.put p1 p2 (fun k hk => Below.heap_alloc _ _ _ hk) (by simp) rfl rfl rfl
end Go.Pv
namespace Go.Pv
open Go Go.RowKit Go.Sh
variable {P : Program} {s : Sit}
theorem fold_cells (off : Nat) : ∀ (l : List Value) (n : Nat) (arr : Array Value), ((l.zipIdx n).foldl (fun cs (p : Value × Nat) => cs.setIfInBounds (off + p.2) p.1) arr).size = arr.size ∧
    ∀ j, ((l.zipIdx n).foldl (fun cs (p : Value × Nat) => cs.setIfInBounds (off + p.2) p.1) arr)[j]? = if off + n ≤ j ∧ j < off + n + l.length ∧ j < arr.size then l[j - (off + n)]? else arr[j]?
  | [], n, arr => by simp; intro j; omega
  | v :: l, n, arr => by
    obtain ⟨h1, h2⟩ := fold_cells off l (n + 1) (arr.setIfInBounds (off + n) v)
    simp only [List.zipIdx_cons, List.foldl_cons]
    refine ⟨by rw [h1]; simp, fun j => ?_⟩
    rw [h2]
    simp only [Array.size_setIfInBounds, List.length_cons]
    by_cases hj : j = off + n
    · subst hj
      rw [if_neg (by omega)]
      by_cases hs : off + n < arr.size
      · rw [if_pos ⟨by omega, by omega, hs⟩]; simp [hs]
      · rw [if_neg (by omega)]
        simp [Array.getElem?_eq_none (Nat.le_of_not_lt hs)]; omega
    · rw [Array.getElem?_setIfInBounds_ne (by omega)]
      by_cases hc : off + (n + 1) ≤ j ∧ j < off + (n + 1) + l.length ∧ j < arr.size
      · rw [if_pos hc, if_pos ⟨by omega, by omega, hc.2.2⟩, show j - (off + n) = (j - (off + (n + 1))) + 1 by omega, List.getElem?_cons_succ]
      · rw [if_neg hc, if_neg (by omega)]
theorem fill_one (us v : Array Value) (off : Nat) (h : off + v.size ≤ us.size) : v.zipIdx.foldl (fun cs (p : Value × Nat) => cs.setIfInBounds (off + p.2) p.1) us = (spl us.toList off v.toList).toArray := by
  obtain ⟨h1, h2⟩ := fold_cells off v.toList 0 us
  rw [show v.zipIdx.foldl (fun cs (p : Value × Nat) => cs.setIfInBounds (off + p.2) p.1) us = (v.toList.zipIdx 0).foldl (fun cs (p : Value × Nat) => cs.setIfInBounds (off + p.2) p.1) us by
    rw [← Array.toList_zipIdx, Array.foldl_toList]]
  have hfit : off + v.toList.length ≤ us.toList.length := by simpa using h
  apply Array.ext_getElem?
  intro j
  rw [h2]
  simp only [List.getElem?_toArray]
  rw [spl_get hfit]
  simp only [Nat.add_zero, Array.length_toList, Array.getElem?_toList]
  by_cases hc : off ≤ j ∧ j < off + v.size
  · rw [if_pos hc, if_pos ⟨hc.1, hc.2, by omega⟩]
  · rw [if_neg hc, if_neg (by omega)]
def fillA (place : Nat → Option (Nat × Nat)) (cs : List AC) : List (Nat × List AC) → Option (List AC)
  | [] => some cs
  | (i, vs) :: r => match place i with
    | none => none
    | some (off, sz) => if vs.length = sz ∧ off + vs.length ≤ cs.length then fillA place (spl cs off vs) r else none
theorem fillA_run {place place' : Nat → Option (Nat × Nat)} (hpp : ∀ i x, place i = some x → place' i = some x) : ∀ (parts : List (Nat × List AC)) (parts' : List (Nat × Value)) (cs cs' : List AC) (us : Array Value), fillA place cs parts = some cs' → RelCs s cs us → parts'.map (·.1) = parts.map (·.1) →
    (∀ (j : Nat) (p : Nat × List AC) (q : Nat × Value), parts[j]? = some p → parts'[j]? = some q → RelCs s p.2 q.2.cells) → ∃ us', Instr.fill place' us parts' = some us' ∧ RelCs s cs' us'
  | [], parts', cs, cs', us, h, hr, hm, _ => by
    have : parts' = [] := by simpa using hm
    subst this
    cases h
    exact ⟨us, rfl, hr⟩
  | (i, vs) :: r, [], _, _, _, _, _, hm, _ => by simp at hm
  | (i, vs) :: r, (i', v) :: r', cs, cs', us, h, hr, hm, hp => by
    simp only [List.map_cons, List.cons.injEq] at hm
    obtain ⟨hi, hm⟩ := hm
    subst hi
    have h0 := hp 0 (i', vs) (i', v) rfl rfl
    simp only at h0
    unfold fillA at h
    unfold Instr.fill
    split at h
    · cases h
    · rename_i off sz hpl
      rw [hpp _ _ hpl]
      split at h
      · rename_i hc
        have hs := h0.1
        have hu := hr.1
        have hcond : ¬ ((decide (v.cells.size ≠ sz) || decide (off + v.cells.size > us.size)) = true) := by simp; omega
        simp only
        rw [if_neg hcond, fill_one us v.cells off (by omega)]
        refine fillA_run hpp r r' _ cs' _ h (relCs_spl hr (by simpa using h0) hc.2) hm fun j p q h1 h2 => hp (j + 1) p q h1 h2
      · cases h
def part1 (fr : Nat → Option AV) (p : Nat × Operand) : Option (Nat × List AC) := (evalA fr p.2).bind fun av => (cellsA av).map fun cs => (p.1, cs)
def partsA (fr : Nat → Option AV) (parts : Array (Nat × Operand)) : Option (List (Nat × List AC)) := parts.toList.mapM (part1 fr)
theorem partsA_rel (H : Heap0 s) {fr : Nat → Option AV} {a : Act} (hF : ∀ x av, evalA fr x = some av → RelV s av (a.eval x)) {parts : Array (Nat × Operand)} {l : List (Nat × List AC)} (h : partsA fr parts = some l) :
    (parts.map fun (p : Nat × Operand) => (p.1, a.eval p.2)).toList.map (·.1) = l.map (·.1) ∧
    ∀ (j : Nat) (p : Nat × List AC) (q : Nat × Value), l[j]? = some p → (parts.map fun (p : Nat × Operand) => (p.1, a.eval p.2)).toList[j]? = some q → RelCs s p.2 q.2.cells := by
  unfold partsA at h
  obtain ⟨h1, h2⟩ := mapM_get h
  refine ⟨?_, fun j p q hp hq => ?_⟩
  · apply List.ext_getElem?
    intro j
    by_cases hj : j < l.length
    · obtain ⟨x, hx, hf⟩ := h2 j l[j] (by simp [hj])
      simp only [part1, Option.bind_eq_some_iff, Option.map_eq_some_iff] at hf
      obtain ⟨av, _, cs, _, hf⟩ := hf
      have hx' : parts[j]? = some x := by simpa using hx
      simp [hx', hj, ← hf]
    · have hlen : parts.size = l.length := by simpa using h1.symm
      simp [List.getElem?_eq_none (Nat.le_of_not_lt hj), Array.getElem?_eq_none (show parts.size ≤ j by omega)]
  · obtain ⟨x, hx, hf⟩ := h2 j p hp
    simp only [part1, Option.bind_eq_some_iff, Option.map_eq_some_iff] at hf
    obtain ⟨av, hav, cs, hcs, rfl⟩ := hf
    have hx' : parts[j]? = some x := by simpa using hx
    simp [hx'] at hq
    subst hq
    exact cellsA_rel H (hF _ _ hav) hcs
def allSz (P : Program) (T : TypeId) : Bool := match P.underlying T with | some (.struct fs) => fs.toList.all fun f => (tySize P f.type).isSome | _ => false
def buildA (P : Program) (fr : Nat → Option AV) (T : TypeId) (parts : Array (Nat × Operand)) : Option AV :=
  (tyZero P T).bind fun z => (partsA fr parts).bind fun ps =>
    match arrElem P T with
    | some (_, e) => (tySize P e).bind fun es => (fillA (fun i => some (i * es, es)) z ps).map .agg
    | none => if allSz P T = true then (fillA (fun i => (fldOf P T i).map fun x => (x.1, x.2.1)) z ps).map .agg else none
theorem mapM_places {fs : Array Field} (h : fs.toList.all (fun f => (tySize P f.type).isSome) = true) (w : World) :
    ((fs.mapM fun f => (do pure (f.offset, ← sizeOf f.type) : Sem (Nat × Nat)))).run P w = .ok (fs.map fun f => (f.offset, (tySize P f.type).getD 0)) w := by
  have key : ∀ (l : List Field), l.all (fun f => (tySize P f.type).isSome) = true → ((l.mapM fun f => (do pure (f.offset, ← sizeOf f.type) : Sem (Nat × Nat)))).run P w = .ok (l.map fun f => (f.offset, (tySize P f.type).getD 0)) w := by
    intro l
    induction l with
    | nil => intro _; rfl
    | cons f l ih =>
      intro hl
      simp only [List.all_cons, Bool.and_eq_true] at hl
      obtain ⟨n, hn⟩ := Option.isSome_iff_exists.1 hl.1
      simp only [List.mapM_cons, Sem.run_bind, run_sizeOf' hn, Result.andThen_ok, Sem.run_pure, ih hl.2, List.map_cons, hn, Option.getD_some]
  rw [Array.mapM_eq_mapM_toList]
  simp only [Sem.run_map, key fs.toList h]
  simp [Result.andThen]
  exact Array.ext' (by simp)
theorem buildA_run (H : Heap0 s) {fr : Nat → Option AV} {a : Act} (hF : ∀ x av, evalA fr x = some av → RelV s av (a.eval x)) {T : TypeId} {parts : Array (Nat × Operand)} {r : AV} (h : buildA P fr T parts = some r) :
    ∃ v, (Instr.build T (parts.map fun (p : Nat × Operand) => (p.1, a.eval p.2))).run P s.w = .ok v s.w ∧ RelV s r v := by
  unfold buildA at h
  simp only [Option.bind_eq_some_iff] at h
  obtain ⟨z, hz, ps, hps, h⟩ := h
  obtain ⟨zv, hz1, hz2⟩ := run_zero' hz
  obtain ⟨hp1, hp2⟩ := partsA_rel H hF hps
  split at h
  · rename_i n e he
    have hd := underlying_arr he
    simp only [Option.bind_eq_some_iff, Option.map_eq_some_iff] at h
    obtain ⟨es, hes, cs', hf, rfl⟩ := h
    obtain ⟨us', h1, h2⟩ := fillA_run (place' := fun i => some (i * es, es)) (fun _ _ h => h) ps _ z cs' zv.cells hf (relCs_zero hz1) hp1 hp2
    refine ⟨.agg us', ?_, us', rfl, h2⟩
    simp only [Instr.build, Sem.run_bind, hz2, Result.andThen_ok, run_underlying hd, run_sizeOf' hes, h1, Sem.run_pure]
  · split at h
    · rename_i hall
      unfold allSz at hall
      split at hall
      · rename_i fs hd
        simp only [Option.map_eq_some_iff] at h
        obtain ⟨cs', hf, rfl⟩ := h
        obtain ⟨us', h1, h2⟩ := fillA_run (place' := fun i => (fs.map fun f => (f.offset, (tySize P f.type).getD 0))[i]?) (fun i x hx => by
          simp only [fldOf, hd, Option.map_eq_some_iff, Option.bind_eq_some_iff] at hx
          obtain ⟨y, ⟨fd, hfd, sz, hsz, ag, _, hy⟩, rfl⟩ := hx
          cases hy
          simp [hfd, hsz]) ps _ z cs' zv.cells hf (relCs_zero hz1) hp1 hp2
        refine ⟨.agg us', ?_, us', rfl, h2⟩
        have hm := mapM_places (P := P) hall s.w
        simp only [Instr.build, Sem.run_bind, hz2, Result.andThen_ok, run_underlying hd, hm, h1, Sem.run_pure]
      · cases hall
    · cases h
def chunk {α : Type} (es : Nat) : Nat → List α → List (List α)
  | 0, _ => []
  | n + 1, cs => cs.take es :: chunk es n (cs.drop es)
theorem chunk_get {α : Type} (es : Nat) : ∀ (n : Nat) (cs : List α) (i : Nat), (chunk es n cs)[i]? = if i < n then some ((cs.drop (i * es)).take es) else none
  | 0, cs, i => by simp [chunk]
  | n + 1, cs, 0 => by simp [chunk]
  | n + 1, cs, i + 1 => by
    simp only [chunk, List.getElem?_cons_succ, chunk_get es n (cs.drop es) i, List.drop_drop]
    by_cases h : i < n
    · rw [if_pos h, if_pos (by omega), show es + i * es = (i + 1) * es by rw [Nat.succ_mul]; omega]
    · rw [if_neg h, if_neg (by omega)]
theorem chunk_length {α : Type} (es : Nat) : ∀ (n : Nat) (cs : List α), (chunk es n cs).length = n
  | 0, _ => rfl
  | n + 1, cs => by simp [chunk, chunk_length es n]
def toPV (h : Nat → Option Obj') : AC → Option PV
  | .p x => some x
  | .nil => some (.sl [])
  | .own t n => match h t with | some (.arr _ _ rows true) => some (.sl (rows.take n)) | _ => none
  | _ => none
theorem relP_nil {Z : Zn} {w : World} (ao : Option Addr) (cap : Nat) : RelP Z w (.sl []) (.slice ao 0 cap) := by
  have := RelP.sl (Z := Z) (w := w) [] 0 ao cap 0 0 (fun _ _ => default) (by simp) (by simp) (by simp) (by simp) (by simp) (by simp)
  exact this
theorem toPV_rel (H : Heap0 s) {c : AC} {u : Value} {x : PV} (h : RelC s c u) (hx : toPV s.h c = some x) : RelP s.Safe s.w x u := by
  unfold toPV at hx
  split at hx
  · cases hx; exact h
  · cases hx; subst h; exact relP_nil none 0
  · rename_i t n
    split at hx
    · rename_i E k rows hh
      cases hx
      obtain ⟨E', k', rows', sh, val, xs, h1, h2, h3, h4, h5, h6, h7⟩ := own_cases H h
      rw [hh] at h1; cases h1
      rcases h7 with ⟨rfl, rfl⟩ | ⟨_, _, h7⟩
      · exact relP_take (own_shared H hh h2 h3 h4 h5)
      · exact h7
    · cases hx
  · cases hx
def zeros (n : Nat) (zc : List AC) : List AC := (List.replicate n zc).flatten
theorem zeros_length (n : Nat) (zc : List AC) : (zeros n zc).length = n * zc.length := by simp [zeros]
theorem zeros_get (n : Nat) (zc : List AC) (i : Nat) (c : AC) (h : (zeros n zc)[i]? = some c) : zc[i % zc.length]? = some c := by
  induction n generalizing i with
  | zero => simp [zeros] at h
  | succ n ih =>
    simp only [zeros, List.replicate_succ, List.flatten_cons] at h
    by_cases hi : i < zc.length
    · rw [List.getElem?_append_left hi] at h
      rw [Nat.mod_eq_of_lt hi]; exact h
    · rw [List.getElem?_append_right (by omega)] at h
      have := ih (i - zc.length) h
      rw [← this, Nat.mod_eq_sub_mod (by omega)]
def buildSliceA (P : Program) (fr : Nat → Option AV) (h : Nat → Option Obj') (nx : Nat) (T : TypeId) (len : Nat) (parts : Array (Nat × Operand)) : Option (AV × (Nat × Obj')) :=
  (sliceElem P T).bind fun e => (tySize P e).bind fun es => (tyZero P e).bind fun z => (partsA fr parts).bind fun ps =>
    if z.length = es ∧ len * es ≤ 16777216 ∧ len ≤ 16777216 then
      (fillA (fun i => some (i * es, es)) (zeros len z) ps).bind fun cs => (cs.mapM (toPV h)).bind fun pvs =>
        some (.one (.own nx len), (nx, .arr e es (chunk es len pvs) (decide (len ≠ 0))))
    else none
theorem buildSliceA_run (H : Heap0 s) {fr : Nat → Option AV} {a : Act} (hF : ∀ x av, evalA fr x = some av → RelV s av (a.eval x)) {nx : Nat} (hnx : s.σ nx = none) (hbase : s.base ≤ s.w.heap.size) {T : TypeId} {len : Nat} {parts : Array (Nat × Operand)} {r : AV} {id : Nat} {o' : Obj'}
    (h : buildSliceA P fr s.h nx T len parts = some (r, (id, o'))) :
    ∃ v l' w', (Instr.buildSlice T len (parts.map fun (p : Nat × Operand) => (p.1, a.eval p.2))).run P s.w = .ok v w' ∧ Put s id o' l' w' ∧ RelV (s.put id o' l' w') r v := by
  unfold buildSliceA at h
  simp only [Option.bind_eq_some_iff] at h
  obtain ⟨e, he, es, hes, z, hz, ps, hps, h⟩ := h
  split at h
  · rename_i hc
    obtain ⟨hc1, hc2, hc3⟩ := hc
    simp only [Option.bind_eq_some_iff, Option.some.injEq, Prod.mk.injEq] at h
    obtain ⟨cs, hf, pvs, hpv, rfl, rfl, rfl⟩ := h
    have hd := underlying_slice he
    have hsz := run_sizeOf' hes s.w
    obtain ⟨zv, hz1, hz2⟩ := run_zero' hz
    obtain ⟨hp1, hp2⟩ := partsA_rel H hF hps
    have hzr := relCs_zero (s := s) hz1
    obtain ⟨Z0, hZ0, hZr⟩ : ∃ Z0 : Array Value, (∀ w, ((if len * es = 0 then pure #[] else do pure (← zeroValue e).cells : Sem (Array Value)) >>= fun zero => pure ((Array.range (len * es)).map (zero[· % zero.size]!))).run P w = .ok Z0 w) ∧ RelCs s (zeros len z) Z0 := by
      by_cases h0 : len * es = 0
      · refine ⟨#[], fun w => ?_, ?_⟩
        · simp [h0]
        · refine ⟨by rw [zeros_length, hc1, h0]; rfl, fun j c hj => ?_⟩
          have : j < (zeros len z).length := (List.getElem?_eq_some_iff.1 hj).1
          rw [zeros_length, hc1, h0] at this; omega
      · refine ⟨(Array.range (len * es)).map (zv.cells[· % zv.cells.size]!), fun w => ?_, ?_⟩
        · simp [h0, hz2]
        · refine ⟨by simp [zeros_length, hc1], fun j c hj => ?_⟩
          have hjl : j < (zeros len z).length := (List.getElem?_eq_some_iff.1 hj).1
          rw [zeros_length, hc1] at hjl
          obtain ⟨x, hx, hr⟩ := hzr.2 _ c (zeros_get len z j c hj)
          have hzs := hzr.1
          refine ⟨x, ?_, hr⟩
          rw [← hzs] at hx
          have : zv.cells[j % zv.cells.size]! = x := by
            rw [Array.getElem!_eq_getD, Array.getD_eq_getD_getElem?, hx]; rfl
          simp [hjl, this]
    obtain ⟨us', h1, h2⟩ := fillA_run (place' := fun i => some (i * es, es)) (fun _ _ h => h) ps _ (zeros len z) cs Z0 hf hZr hp1 hp2
    have hlen := h2.1
    obtain ⟨hm1, hm2⟩ := mapM_get hpv
    have hcl : cs.length = len * es := by
      have key : ∀ (ps : List (Nat × List AC)) (c0 c1 : List AC), fillA (fun i => some (i * es, es)) c0 ps = some c1 → c1.length = c0.length := by
        intro ps
        induction ps with
        | nil => intro c0 c1 h; cases h; rfl
        | cons p ps ih =>
          intro c0 c1 h
          obtain ⟨i, vs⟩ := p
          simp only [fillA] at h
          split at h
          · rename_i hh
            rw [ih _ _ h, spl_length hh.2]
          · cases h
      rw [key _ _ _ hf, zeros_length, hc1]
    obtain ⟨w', hw'⟩ : ∃ w', s.w.alloc (.cells us' e (0, 0)) = w' := ⟨_, rfl⟩
    have hown : w'.ownsRow s.base e es (.slice (some ⟨s.w.heap.size, 0, none⟩) len len) (chunk es len pvs).length us'.toList := by
      rw [chunk_length, ← hw']
      exact World.ownsRow_lit s.w us' len hbase (by unfold maxLen; omega) (by rw [hlen, hcl])
    have hk : rowsK es (chunk es len pvs) := by
      intro i row hi
      rw [chunk_get] at hi
      split at hi
      · rename_i hlt
        cases hi
        have : (i + 1) * es ≤ len * es := Nat.mul_le_mul_right _ hlt
        rw [Nat.succ_mul] at this
        simp; omega
      · cases hi
    have hcw : Cellwise s.Safe s.w es (chunk es len pvs) us'.toList := by
      intro i row j c hi hj
      rw [chunk_get] at hi
      split at hi
      · cases hi
        rw [List.getElem?_take] at hj
        split at hj
        · rw [List.getElem?_drop] at hj
          obtain ⟨ac, hac, hf2⟩ := hm2 _ c hj
          obtain ⟨u, hu, hru⟩ := h2.2 _ ac hac
          exact ⟨u, by simpa using hu, toPV_rel H hru hf2⟩
        · cases hj
      · cases hi
    obtain ⟨q1, q2⟩ := new_arr H hnx hbase (decide (len ≠ 0)) hown (by rw [← hw']; exact World.grownBy_alloc s.w _ none) (by intro b hb; simp [Value.ownBlock] at hb; omega) hk hcw
    refine ⟨.slice (some ⟨s.w.heap.size, 0, none⟩) len len, _, w', ?_, Turn.put q1 q2 (fun k hk => by rw [← hw']; exact Below.heap_alloc _ _ _ hk) (by rw [← hw']; simp) (by rw [← hw']; rfl) (by rw [← hw']; rfl) (by rw [← hw']; rfl), ?_⟩
    · have hgt : ¬ (16777216 < len * es) := by omega
      have hZ := hZ0 s.w
      simp only [Sem.run_bind] at hZ
      simp only [Instr.buildSlice, Sem.run_bind, run_underlying hd, Result.andThen_ok, hsz]
      simp only [show ¬ (len * es > 2 ^ 24) from by omega, if_false, Sem.run_bind, Sem.run_pure, Result.andThen_ok]
      by_cases h0 : len * es = 0
      · simp only [h0, if_true, Sem.run_pure, Result.andThen_ok] at hZ ⊢
        cases hZ
        simp only [h1, Sem.run_bind, Sem.run_pure, Result.andThen_ok]
        simp [newRow, hw']
      · simp only [h0, if_false, Sem.run_bind, hz2, Sem.run_pure, Result.andThen_ok] at hZ ⊢
        cases hZ
        simp only [h1, Sem.run_bind, Sem.run_pure]
        simp [newRow, hw']
    · refine ⟨e, es, _, _, _, upd_same s.h nx _, upd_same s.σ nx _, by rw [chunk_length]; exact Nat.le_refl _, fun _ => rfl, fun hlt => ?_⟩
      rw [chunk_length] at hlt; omega
  · cases h
end Go.Pv
namespace Go.Pv
open Go Go.RowKit Go.Sh
variable {P : Program} {s : Sit}
def rowsOfA (h : Nat → Option Obj') : AV → Option (List (List PV))
  | .one .nil => some []
  | .one (.p (.sl rows)) => some rows
  | .one (.own t n) => match h t with | some (.arr _ _ rows _) => some (rows.take n) | _ => none
  | _ => none
structure Src (s : Sit) (es : Nat) (xr : List (List PV)) (u : Value) : Prop where
  ex : ∃ ao cap news, u = .slice ao xr.length cap ∧ news.length = xr.length * es ∧ Cellwise s.Safe s.w es xr news ∧ (∀ y ∈ news, y.oneCell' = true) ∧ (ao = none → xr = []) ∧
    ∀ b, ao = some b → ∀ j y, news[j]? = some y → s.w.cell? (b.add j) = some y
theorem src_relP {es : Nat} (hes : 0 < es) {xr : List (List PV)} {u : Value} (hk : rowsK es xr) (h : RelP s.Safe s.w (.sl xr) u) : Src s es xr u := by
  cases h with
  | sl _ k ao cap b off us hm hk' hao hc hz hr =>
    refine ⟨ao, cap, (List.range (xr.length * es)).map (fun q => us (q / es) (q % es)), rfl, by simp, ?_, ?_, ?_, ?_⟩
    all_goals
      have hlt : ∀ (i : Nat) (row : List PV) (j : Nat) (c : PV), xr[i]? = some row → row[j]? = some c → i * es + j < xr.length * es ∧ (i * es + j) / es = i ∧ (i * es + j) % es = j := by
        intro i row j c hi hj
        have hi' := (List.getElem?_eq_some_iff.1 hi).1
        have hj' := (List.getElem?_eq_some_iff.1 hj).1
        rw [hk i row hi] at hj'
        have h1 : (i + 1) * es ≤ xr.length * es := Nat.mul_le_mul_right _ hi'
        rw [Nat.succ_mul] at h1
        refine ⟨by omega, ?_, ?_⟩
        · rw [Nat.mul_comm, Nat.mul_add_div hes, Nat.div_eq_of_lt hj']; omega
        · rw [Nat.mul_comm, Nat.mul_add_mod, Nat.mod_eq_of_lt hj']
    · intro i row j c hi hj
      obtain ⟨h1, h2, h3⟩ := hlt i row j c hi hj
      refine ⟨us i j, ?_, hr i row j c hi hj⟩
      simp [h1, h2, h3]
    · intro y hy
      simp only [List.mem_map, List.mem_range] at hy
      obtain ⟨q, hq, rfl⟩ := hy
      have hqi : q / es < xr.length := Nat.div_lt_of_lt_mul (by rwa [Nat.mul_comm] at hq)
      have hrow := hk _ _ (List.getElem?_eq_getElem hqi)
      have hj : q % es < (xr[q / es]).length := by rw [hrow]; exact Nat.mod_lt _ hes
      exact RelP.one (hr _ _ _ _ (List.getElem?_eq_getElem hqi) (List.getElem?_eq_getElem hj))
    · rintro rfl
      by_cases hx : xr = []
      · exact hx
      · have := hao hx; cases this
    · rintro b' rfl j y hj
      have hx : xr ≠ [] := by rintro rfl; simp at hj
      have := hao hx
      cases this
      simp only [List.getElem?_map] at hj
      have hjl : j < xr.length * es := by
        by_cases hh : j < xr.length * es
        · exact hh
        · rw [List.getElem?_eq_none (by simp; omega)] at hj; cases hj
      rw [List.getElem?_range hjl] at hj
      cases hj
      have hqi : j / es < xr.length := Nat.div_lt_of_lt_mul (by rwa [Nat.mul_comm] at hjl)
      have hrow := hk _ _ (List.getElem?_eq_getElem hqi)
      have hj2 : j % es < (xr[j / es]).length := by rw [hrow]; exact Nat.mod_lt _ hes
      have hke : k = es := by rw [← hk' _ _ (List.getElem?_eq_getElem hqi), hrow]
      subst hke
      have := hc _ _ _ _ (List.getElem?_eq_getElem hqi) (List.getElem?_eq_getElem hj2)
      rw [Addr.add_lit]
      have he : off + j / k * k + j % k = off + j := by rw [Nat.add_assoc, Nat.mul_comm, Nat.div_add_mod]
      rw [he] at this; exact this
theorem src_own {E : TypeId} {es : Nat} {rows : List (List PV)} {val : Value} {xs : List Value} (h3 : s.w.ownsRow s.base E es val rows.length xs) (hk : rowsK es rows) (hes : 0 < es) (hc : Cellwise s.Safe s.w es rows xs) : Src s es rows val := by
  have hone : ∀ y ∈ xs, y.oneCell' = true := by
    intro y hy
    obtain ⟨q, hq⟩ := List.mem_iff_getElem?.1 hy
    have hql : q < rows.length * es := by rw [← h3.1]; exact (List.getElem?_eq_some_iff.1 hq).1
    have hqi : q / es < rows.length := Nat.div_lt_of_lt_mul (by rwa [Nat.mul_comm] at hql)
    have hrow := hk _ _ (List.getElem?_eq_getElem hqi)
    have hj2 : q % es < (rows[q / es]).length := by rw [hrow]; exact Nat.mod_lt _ hes
    obtain ⟨u, hu, hr⟩ := hc _ _ _ _ (List.getElem?_eq_getElem hqi) (List.getElem?_eq_getElem hj2)
    rw [show q / es * es + q % es = q by rw [Nat.mul_comm]; exact Nat.div_add_mod q es] at hu
    rw [hq] at hu; cases hu
    exact hr.one
  rcases h3.2 with ⟨rfl, h0⟩ | ⟨g, cap, cur, rfl, hbg, hg, hnc, _⟩
  · exact ⟨none, 0, xs, by rw [h0], h3.1, hc, hone, fun _ => List.eq_nil_of_length_eq_zero h0, fun _ h => (by cases h)⟩
  · refine ⟨some ⟨g, 0, none⟩, cap, xs, rfl, h3.1, hc, hone, (fun h => by cases h), ?_⟩
    rintro b hb j y hj
    cases hb
    exact h3.cells (g := g) rfl j y hj
theorem rowsOfA_src (H : Heap0 s) {x : AV} {u : Value} {xr : List (List PV)} {es : Nat} (hes : 0 < es) (hu : RelV s x u) (h : rowsOfA s.h x = some xr) (hk : rowsK es xr) : Src s es xr u := by
  unfold rowsOfA at h
  split at h
  · cases h; cases hu; exact src_relP hes hk (relP_nil none 0)
  · cases h; exact src_relP hes hk hu
  · rename_i t n
    split at h
    · rename_i E k rows sh hh
      cases h
      obtain ⟨E', k', rows', sh', val, xs, h1, h2, h3, h4, h5, h6, h7⟩ := own_cases H hu
      rw [hh] at h1; cases h1
      rcases h7 with ⟨rfl, rfl⟩ | ⟨_, _, h7⟩
      · rw [List.take_length] at hk ⊢
        by_cases h0 : rows = []
        · subst h0
          rcases h3.2 with ⟨rfl, _⟩ | ⟨g, cap, cur, rfl, _⟩
          · exact src_relP hes hk (relP_nil none 0)
          · exact src_relP hes hk (relP_nil _ cap)
        · have hlt : 0 < rows.length := List.length_pos_iff.2 h0
          have hke : k = es := by rw [← h4 _ _ (List.getElem?_eq_getElem hlt), hk _ _ (List.getElem?_eq_getElem hlt)]
          subst hke
          exact src_own h3 h4 hes h5
      · exact src_relP hes hk h7
    · cases h
  · cases h
instance (k : Nat) (rows : List (List PV)) : Decidable (rowsK k rows) :=
  decidable_of_iff (∀ r ∈ rows, r.length = k) ⟨fun h i r hi => h r (List.mem_of_getElem? hi), fun h r hr => by obtain ⟨i, hi⟩ := List.mem_iff_getElem?.1 hr; exact h i r hi⟩
def appendA (P : Program) (h : Nat → Option Obj') (nx : Nat) (T T' : TypeId) (a x : AV) : Option (AV × (Nat × Obj')) :=
  (sliceElem P T).bind fun e => (tySize P e).bind fun es => (tyBytes P e).bind fun by_ => (tyZero P e).bind fun z => (rowsOfA h x).bind fun xr =>
    if T' = T ∧ 0 < es ∧ 0 < by_ ∧ z.length = es ∧ rowsK es xr then
      match a with
      | .one .nil => if xr.length * by_ ≤ 140737488355328 then some (.one (.own nx xr.length), (nx, .arr e es xr false)) else none
      | .one (.own t n) => match h t with
        | some (.arr E k rows sh) => if n = rows.length ∧ k = es ∧ E = e ∧ (rows.length + xr.length) * by_ ≤ 140737488355328 then some (.one (.own t (rows.length + xr.length)), (t, .arr e es (rows ++ xr) (sh || !rows.isEmpty))) else none
        | _ => none
      | _ => none
    else none
theorem run_append_none (w : World) (base : Nat) (t ty e : TypeId) (i : TypeInfo) (size : Nat) (ht : P.underlying t = some (.slice e)) (hi : P.info? e = some i)
    (v : Value) (n : Nat) (xs : List Value) (hown : w.ownsRow base e size v n xs) (cap : Nat) :
    (Builtin.append_ #[t, t] ty #[v, .slice none 0 cap]).run P w = .ok v w := by
  rcases hown.2 with ⟨rfl, rfl⟩ | ⟨g, cap, cur, rfl, _, _, hnc, _⟩
  · simp [Builtin.append_, run_underlying ht, sizeOf, typeInfo, hi, Builtin.lenOf, Builtin.firstCells]
  · simp [Builtin.append_, run_underlying ht, sizeOf, typeInfo, hi, Builtin.lenOf, Builtin.firstCells, hnc, storeCells]
theorem run_append_src {es by_ : Nat} {T e : TypeId} (ht : P.underlying T = some (.slice e)) (hes : tySize P e = some es) (hby : tyBytes P e = some by_) {z : List AC} (hz : tyZero P e = some z) (hzl : z.length = es) (h0 : 0 < es) (h0b : 0 < by_) (ty : TypeId)
    {v : Value} {n : Nat} {xs : List Value} (hown : s.w.ownsRow s.base e es v n xs) (hbase : s.base ≤ s.w.heap.size) {xr : List (List PV)} {u : Value} (hs : Src s es xr u) (hb : (n + xr.length) * by_ ≤ 140737488355328) :
    ∃ v' w' news, (Builtin.append_ #[T, T] ty #[v, u]).run P s.w = .ok v' w' ∧ w'.ownsRow s.base e es v' (n + xr.length) (xs ++ news) ∧ s.w.grownBy w' v.ownBlock ∧
      (∀ g, v.ownBlock = some g → ∀ c u, c < n * es → s.w.cell? ⟨g, c, none⟩ = some u → w'.cell? ⟨g, c, none⟩ = some u) ∧ (∀ b, v'.ownBlock = some b → v.ownBlock = some b ∨ s.w.heap.size ≤ b) ∧ (xr.length = 0 → v' = v) ∧
      Cellwise s.Safe s.w es xr news := by
  obtain ⟨ao, cap, news, rfl, hl, hcw, hone, hnone, hsome⟩ := hs.ex
  unfold tySize at hes
  unfold tyBytes at hby
  unfold tyZero at hz
  simp only [Option.map_eq_some_iff] at hes hby
  obtain ⟨i, hi, rfl⟩ := hes
  obtain ⟨i2, hi2, rfl⟩ := hby
  rw [hi] at hi2; cases hi2
  simp only [hi, Option.bind_some, Option.bind_eq_some_iff] at hz
  obtain ⟨zv, hzv, hz⟩ := hz
  have hzs : zv.cells.size = i.size := by have := (mapM_get hz).1; simp at this; omega
  have hm : n + xr.length ≤ 140737488355328 := Nat.le_trans (Nat.le_mul_of_pos_right _ h0b) hb
  cases ao with
  | none =>
    have hx := hnone rfl
    subst hx
    have hn : news = [] := List.eq_nil_of_length_eq_zero (by simpa using hl)
    subst hn
    refine ⟨v, s.w, [], run_append_none s.w s.base T ty e i i.size ht hi v n xs hown cap, by simpa using hown, ⟨rfl, rfl, rfl, Nat.le_refl _, fun _ _ _ => rfl⟩, fun _ _ _ _ _ h => h, fun b hb => .inl hb, fun _ => rfl, hcw⟩
  | some a =>
    obtain ⟨v', w', h1, h2, h3, h4, h5, h6⟩ := run_append_strong (P := P) s.w s.base T ty e i zv i.size i.bytes ht hi hzv rfl rfl hzs h0 v n xs hown a xr.length cap news hl (hsome a rfl) hone (by unfold maxLen; omega) hb hbase
    exact ⟨v', w', news, h1, h2, h3, h4, h5, h6, hcw⟩
theorem appendA_run (H : Heap0 s) {nx : Nat} (hbase : s.base ≤ s.w.heap.size) {T T' : TypeId} {a x r : AV} {id : Nat} {o' : Obj'} (ty : TypeId) {ua ux : Value} (hua : RelV s a ua) (hux : RelV s x ux)
    (h : appendA P s.h nx T T' a x = some (r, (id, o'))) (hnx : id = nx → s.σ nx = none) : ∃ v l' w', (Builtin.append_ #[T, T'] ty #[ua, ux]).run P s.w = .ok v w' ∧ Put s id o' l' w' ∧ RelV (s.put id o' l' w') r v := by
  unfold appendA at h
  simp only [Option.bind_eq_some_iff] at h
  obtain ⟨e, he, es, hes, by_, hby, z, hz, xr, hxr, h⟩ := h
  split at h
  · rename_i hc
    obtain ⟨rfl, h0, h0b, hzl, hk⟩ := hc
    have hd := underlying_slice he
    have hs := rowsOfA_src H h0 hux hxr hk
    split at h
    · split at h
      · rename_i hb
        cases h
        cases hua
        obtain ⟨v', w', news, h1, h2, h3, h4, h5, h6, h7⟩ := run_append_src hd hes hby hz hzl h0 h0b ty (World.ownsRow_nil s.w s.base e es) hbase hs (by rw [Nat.zero_add]; exact hb)
        rw [Nat.zero_add, List.nil_append] at h2
        obtain ⟨q1, q2⟩ := new_arr H (hnx rfl) hbase false h2 h3 (fun b hb => by
          rcases h5 b hb with h | h
          · cases h
          · exact h) hk h7
        refine ⟨v', v', w', h1, ⟨q1, q2, fun k hk _ => h3.block k hk (by intro e; cases e), h3.size, h3.os, h3.tape, h3.output⟩, e, es, xr, false, v', upd_same s.h _ _, upd_same s.σ _ _, Nat.le_refl _, fun _ => rfl, fun hlt => by omega⟩
      · cases h
    · rename_i t n
      split at h
      · rename_i E k rows sh hh
        split at h
        · rename_i hc2
          obtain ⟨rfl, rfl, rfl, hb⟩ := hc2
          cases h
          obtain ⟨E', k', rows', sh', val, xs, g1, g2, g3, g4, g5, g6, g7⟩ := own_cases H hua
          rw [hh] at g1; cases g1
          have huv : ua = val := by
            rcases g7 with ⟨_, g7⟩ | ⟨g7, _⟩
            · exact g7
            · omega
          subst huv
          obtain ⟨v', w', news, h1, h2, h3, h4, h5, h6, h7⟩ := run_append_src hd hes hby hz hzl h0 h0b ty g3 hbase hs hb
          obtain ⟨q1, q2⟩ := grow_arr H hh g2 g3.1 g4 g5 (locBlk_own g3) g3 h2 h3 h4 h5 hbase hk h7 (sh || !rows.isEmpty) (by
            cases rows with
            | nil => exact .inl rfl
            | cons r rs => right; simp) (fun h => by rw [h]; rfl) (fun hm => h6 (by rw [hm]; rfl))
          refine ⟨v', v', w', h1, ⟨q1, q2, fun k hk hne => h3.block k hk fun e => hne _ g2 (by rw [locBlk_own g3]; exact e.symm), h3.size, h3.os, h3.tape, h3.output⟩, _, _, rows ++ xr, _, v', upd_same s.h _ _, upd_same s.σ _ _, by simp, fun _ => rfl, fun hlt => by simp at hlt⟩
        · cases h
      · cases h
    · cases h
  · cases h
end Go.Pv
namespace Go.Pv
open Go Go.RowKit Go.Sh
variable {P : Program} {s : Sit}
def binA (P : Program) (op : BinOp) (T : TypeId) (x y : Operand) (a b : Value) : Option Value := peek P (do eqGuard op T x y a b; binOp op T a b)
def unA (P : Program) (op : UnOp) (a : Value) : Option Value := peek P (Op.unary op a)
def convA (P : Program) (src dst : TypeId) (a : Value) : Option Value := peek P (convert src dst a)
def minA (P : Program) (ty : TypeId) (l : List Value) : Option Value := peek P (Builtin.min_ #[] ty l.toArray)
def maxA (P : Program) (ty : TypeId) (l : List Value) : Option Value := peek P (Builtin.max_ #[] ty l.toArray)
def ifcA (P : Program) (T : TypeId) (a : Value) : Option Value := peek P (Instr.makeInterface T a)
def concT (P : Program) (T : TypeId) : Bool := match P.underlying T with | some (.interface _) | none => false | _ => true
theorem concT_run {P : Program} {T : TypeId} (h : concT P T = true) (x : Value) (w : World) : (Instr.makeInterface T x).run P w = .ok (.iface T x) w := by
  refine run_makeInterface w T x ?_
  unfold Program.concrete
  unfold concT at h
  exact h
def boxOf : AV → Option Nat
  | .one (.box b 0) => some b
  | _ => none
theorem boxOf_rel {s : Sit} {av : AV} {u : Value} (h : RelV s av u) {b : Nat} (hb : boxOf av = some b) : ∃ cs blk, s.h b = some (.box cs) ∧ s.σ b = some (.pointer (some ⟨blk, 0, none⟩)) ∧ u = .pointer (some ⟨blk, 0, none⟩) := by
  unfold boxOf at hb
  split at hb
  · cases hb; exact h
  · cases hb
def datC (h : Nat → Option Obj') (av : AV) : Option RV :=
  match av with
  | .one c => (toPV h c).map .one
  | .agg cs => (cs.mapM (toPV h)).map .agg
  | _ => none
def dat1 (fr : Nat → Option AV) (h : Nat → Option Obj') (x : Operand) : Option RV := (evalA fr x).bind (datC h)
theorem datC_rel {s : Sit} (H : Heap0 s) {av : AV} {u : Value} {x : RV} (h : RelV s av u) (hx : datC s.h av = some x) : RelR s.Safe s.w x u := by
  unfold datC at hx
  split at hx
  · simp only [Option.map_eq_some_iff] at hx
    obtain ⟨y, hy, rfl⟩ := hx
    exact toPV_rel H h hy
  · simp only [Option.map_eq_some_iff] at hx
    obtain ⟨ys, hys, rfl⟩ := hx
    obtain ⟨us, rfl, hs, hr⟩ := h
    obtain ⟨h1, h2⟩ := mapM_get hys
    refine ⟨us, rfl, by rw [hs, h1], fun j c hj => ?_⟩
    obtain ⟨ac, hac, hf⟩ := h2 j c hj
    obtain ⟨x, hx, hrx⟩ := hr j ac hac
    exact ⟨x, hx, toPV_rel H hrx hf⟩
  · cases hx
def capA : AV → Option CC
  | .one (.box b 0) => some (.box b)
  | .one (.p x) => some (.p x)
  | _ => none
def nilCheckA (h : Nat → Option Obj') : AV → Bool
  | .one (.box _ _) | .one (.ix _ _) | .one (.p (.ptr _)) | .one (.fn _ _) => true
  | .one (.oix t _ _) => match h t with | some (.arr _ _ _ false) => true | _ => false
  | _ => false
def plain1 (fr : Nat → Option AV) (x : Operand) : Option Value := (evalA fr x).bind plainOf
def plainsA (fr : Nat → Option AV) (l : List Operand) : Option (List Value) := l.mapM (plain1 fr)
def cap1 (fr : Nat → Option AV) (x : Operand) : Option CC := (evalA fr x).bind capA
def bfxOf (fr : Nat → Option AV) (first : Array Operand) : Option Nat := match first.toList with
  | [x] => (evalA fr x).bind boxOf
  | _ => none
def nilM (P : Program) : AV → Bool
  | .one (.p (.v (.func (.method name) first _))) => match (first[0]? : Option Value) with
    | some (.iface t w) => peek P (nilAhead (P.types.size + Made.depth) t w name) == some (some false)
    | _ => false
  | _ => false
theorem nilM_run {P : Program} {av : AV} (h : nilM P av = true) : ∃ name first cap t w, av = .one (.p (.v (.func (.method name) first cap))) ∧ first[0]? = some (.iface t w) ∧ peek P (nilAhead (P.types.size + Made.depth) t w name) = some (some false) := by
  unfold nilM at h
  split at h
  · split at h
    · rename_i hf
      exact ⟨_, _, _, _, _, rfl, hf, by simpa using h⟩
    · cases h
  · cases h
def opA (P : Program) (fr : Nat → Option AV) (h : Nat → Option Obj') (nx : Nat) (o : Oper) : Option (AV × Option (Nat × Obj')) :=
  match o.op with
  | .move x => (evalA fr x).map (·, none)
  | .assign x => (evalA fr x).map (·, none)
  | .pick c a b => (evalA fr c).bind fun cv => match plainOf cv with
    | some (.bool t) => if t = true then (evalA fr a).map (·, none) else (evalA fr b).map (·, none)
    | _ => none
  | .alloc T => (tyZero P T).map fun z => (.one (.box nx 0), some (nx, .box z))
  | .box _ v => (evalA fr v).bind fun av => (cellsA av).map fun cs => (.one (.box nx 0), some (nx, .box cs))
  | .build T parts => (buildA P fr T parts).map (·, none)
  | .buildSlice T len parts => (buildSliceA P fr h nx T len parts).map fun r => (r.1, some r.2)
  | .load T a => (evalA fr a).bind fun av => (loadA P h T av).map (·, none)
  | .store T a v => (evalA fr a).bind fun av => (evalA fr v).bind fun vv => (storeA P h T av vv).map fun r => (.any, some r)
  | .nilCheck x => (evalA fr x).bind fun av => if nilCheckA h av = true then some (av, none) else if nilM P av = true then some (av, none) else none
  | .binOp op T x y _ => (evalA fr x).bind fun ax => (plainOf ax).bind fun vx => (evalA fr y).bind fun ay => (plainOf ay).bind fun vy => (binA P op T x y vx vy).bind fun r => (constA r).map (·, none)
  | .unOp op _ x => (evalA fr x).bind fun ax => (plainOf ax).bind fun vx => (unA P op vx).bind fun r => (constA r).map (·, none)
  | .convert src dst x => (evalA fr x).bind fun ax => (plainOf ax).bind fun vx => (convA P src dst vx).bind fun r => (constA r).map (·, none)
  | .fieldAddr T x f => (evalA fr x).bind fun ax => (fieldAddrA P h T f ax).map (·, none)
  | .field T x f => (evalA fr x).bind fun ax => (fieldA P T f ax).map (·, none)
  | .indexAddr T x i => (evalA fr x).bind fun ax => (evalA fr i).bind fun ai => (indexAddrA P h T ax ai).map (·, none)
  | .index T x i => (evalA fr x).bind fun ax => (evalA fr i).bind fun ai => (indexA P T ax ai).map (·, none)
  | .extract x i => (evalA fr x).bind fun ax => (extractA i ax).map (·, none)
  | .makeFunc (.func f) first captured => if first = #[] then (captured.toList.mapM (cap1 fr)).map fun cs => (.one (.fn f cs), none) else if captured = #[] then (match bfxOf fr first with | some b => some (.one (.bfx f b), none) | none => (first.toList.mapM (dat1 fr h)).map fun rs => (.one (.bfn f rs), none)) else none
  | .makeFunc (.method name) first captured => if captured = #[] then (first.toList.mapM (plain1 fr)).map fun vs => (.one (.p (.v (.func (.method name) vs.toArray #[]))), none) else none
  | .makeInterface T x => (evalA fr x).bind fun ax => match boxOf ax with
    | some b => if concT P T = true then some (.one (.ifc T b), none) else none
    | none => (plainOf ax).bind fun vx => (ifcA P T vx).bind fun r => (constA r).map (·, none)
  | .call { callee := .builtin .len, args, argTypes } => match args.toList, argTypes.toList with
    | [x], [t] => (sliceElem P t).bind fun _ => (evalA fr x).bind fun ax => (lenA ax).map fun (k : Nat) => (.one (.p (.v (.int .i64 (k : Int)))), none)
    | _, _ => none
  | .call { callee := .builtin .append, args, argTypes } => match args.toList, argTypes.toList with
    | [a, x], [T, T'] => (evalA fr a).bind fun aa => (evalA fr x).bind fun ax => (appendA P h nx T T' aa ax).map fun r => (r.1, some r.2)
    | _, _ => none
  | .call { callee := .builtin .min, args, .. } => (plainsA fr args.toList).bind fun l => (minA P o.type l).bind fun r => (constA r).map (·, none)
  | .call { callee := .builtin .max, args, .. } => (plainsA fr args.toList).bind fun l => (maxA P o.type l).bind fun r => (constA r).map (·, none)
  | _ => none
def OpOK (P : Program) (s : Sit) (a : Act) (o : Oper) : AV → Option (Nat × Obj') → Prop
  | r, none => ∃ u, (execOp a.eval o).run P s.w = .ok (.value u) s.w ∧ RelV s r u
  | r, some (id, o') => ∃ (n : Next) (u l' : Value) (w' : World), (execOp a.eval o).run P s.w = .ok n w' ∧ (n = .value u ∨ n = .skip ∧ u = undef ∧ r = .any) ∧ Put s id o' l' w' ∧ RelV (s.put id o' l' w') r u
theorem plains_rel {fr : Nat → Option AV} {a : Act} (hF : ∀ x av, evalA fr x = some av → RelV s av (a.eval x)) {args : Array Operand} {l : List Value} (h : plainsA fr args.toList = some l) : args.map a.eval = l.toArray := by
  obtain ⟨h1, h2⟩ := mapM_get h
  apply Array.ext_getElem?
  intro j
  by_cases hj : j < l.length
  · obtain ⟨x, hx, hf⟩ := h2 j l[j] (by simp [hj])
    simp only [plain1, Option.bind_eq_some_iff] at hf
    obtain ⟨av, hav, hp⟩ := hf
    have hx' : args[j]? = some x := by simpa using hx
    simp [hx', hj, plainOf_rel (hF x av hav) hp]
  · have hs : args.size = l.length := by simpa using h1.symm
    simp [Array.getElem?_eq_none (show args.size ≤ j by omega), List.getElem?_eq_none (Nat.le_of_not_lt hj)]
theorem nilCheck_rel {av : AV} {u : Value} (h : RelV s av u) (hn : nilCheckA s.h av = true) : (∃ a, u = .pointer (some a)) ∨ (∃ f us, u = .func (.func f) #[] us) := by
  unfold nilCheckA at hn
  split at hn
  · obtain ⟨_, _, _, _, rfl⟩ := h; exact .inl ⟨_, rfl⟩
  · obtain ⟨_, _, _, rfl, _⟩ := h; exact .inl ⟨_, rfl⟩
  · cases h with | ptr => exact .inl ⟨_, rfl⟩
  · obtain ⟨_, rfl, _⟩ := h; exact .inr ⟨_, _, rfl⟩
  · split at hn
    · rename_i t _ _ _ _ _ _ ht
      obtain ⟨_, _, _, _, _, h1, _, _, _, h4⟩ := h
      rw [ht] at h1; cases h1
      obtain ⟨_, _, rfl⟩ := h4 rfl
      exact .inl ⟨_, rfl⟩
    · cases hn
  · cases hn
theorem capA_rel {av : AV} {u : Value} {c : CC} (h : RelV s av u) (hc : capA av = some c) : RelCC s c u := by
  unfold capA at hc
  split at hc
  · cases hc
    obtain ⟨cs, blk, h1, h2, rfl⟩ := h
    exact ⟨cs, blk, h1, h2, rfl⟩
  · cases hc; exact h
  · cases hc
theorem opA_sound (H : Heap0 s) {fr : Nat → Option AV} {a : Act} (hF : ∀ x av, evalA fr x = some av → RelV s av (a.eval x)) {nx : Nat} (hbase : s.base ≤ s.w.heap.size) {o : Oper} {r : AV} {wr : Option (Nat × Obj')}
    (h : opA P fr s.h nx o = some (r, wr)) (hnx : ∀ o', wr = some (nx, o') → s.σ nx = none) : OpOK P s a o r wr := by
  unfold opA at h
  split at h
  · rename_i x ho
    simp only [Option.map_eq_some_iff, Prod.mk.injEq] at h
    obtain ⟨av, hav, rfl, rfl⟩ := h
    exact ⟨a.eval x, by simp [execOp, ho], hF _ _ hav⟩
  · rename_i x ho
    simp only [Option.map_eq_some_iff, Prod.mk.injEq] at h
    obtain ⟨av, hav, rfl, rfl⟩ := h
    exact ⟨a.eval x, by simp [execOp, ho], hF _ _ hav⟩
  · rename_i c x y ho
    simp only [Option.bind_eq_some_iff] at h
    obtain ⟨cv, hcv, h⟩ := h
    split at h
    · rename_i t ht
      have hc := plainOf_rel (hF _ _ hcv) ht
      cases t with
      | true =>
        simp only [if_true, Option.map_eq_some_iff, Prod.mk.injEq] at h
        obtain ⟨av, hav, rfl, rfl⟩ := h
        exact ⟨a.eval x, by simp [execOp, ho, hc, asBool], hF _ _ hav⟩
      | false =>
        simp only [Bool.false_eq_true, if_false, Option.map_eq_some_iff, Prod.mk.injEq] at h
        obtain ⟨av, hav, rfl, rfl⟩ := h
        exact ⟨a.eval y, by simp [execOp, ho, hc, asBool], hF _ _ hav⟩
    · cases h
  · rename_i T ho
    simp only [Option.map_eq_some_iff, Prod.mk.injEq] at h
    obtain ⟨z, hz, rfl, rfl⟩ := h
    obtain ⟨zv, hz1, hz2⟩ := run_zero' hz
    have hp := box_put H (hnx _ rfl) hbase (relCs_zero (s := s) hz1) T
    refine ⟨_, .pointer (some ⟨s.w.heap.size, 0, none⟩), _, _, ?_, .inl rfl, hp, z, s.w.heap.size, upd_same s.h nx _, upd_same s.σ nx _, rfl⟩
    simp [execOp, ho, Instr.alloc, hz2, newVar, newRow]
  · rename_i T v ho
    simp only [Option.bind_eq_some_iff, Option.map_eq_some_iff, Prod.mk.injEq] at h
    obtain ⟨av, hav, cs, hcs, rfl, rfl⟩ := h
    have hp := box_put H (hnx _ rfl) hbase (cellsA_rel H (hF _ _ hav) hcs) T
    refine ⟨_, .pointer (some ⟨s.w.heap.size, 0, none⟩), _, _, ?_, .inl rfl, hp, cs, s.w.heap.size, upd_same s.h nx _, upd_same s.σ nx _, rfl⟩
    simp [execOp, ho, Instr.box, newVar, newRow]
  · rename_i T parts ho
    simp only [Option.map_eq_some_iff, Prod.mk.injEq] at h
    obtain ⟨av, hav, rfl, rfl⟩ := h
    obtain ⟨v, hv, hr⟩ := buildA_run H hF hav
    refine ⟨v, ?_, hr⟩
    simp only [execOp, ho, Sem.run_bind, hv, Result.andThen_ok, Sem.run_pure]
  · rename_i T len parts ho
    simp only [Option.map_eq_some_iff, Prod.mk.injEq] at h
    obtain ⟨⟨av, id, o'⟩, hav, rfl, rfl⟩ := h
    have hid : id = nx := by
      unfold buildSliceA at hav
      simp only [Option.bind_eq_some_iff] at hav
      obtain ⟨_, _, _, _, _, _, _, _, hav⟩ := hav
      split at hav
      · simp only [Option.bind_eq_some_iff, Option.some.injEq, Prod.mk.injEq] at hav
        obtain ⟨_, _, _, _, _, h, _⟩ := hav
        exact h.symm
      · cases hav
    subst hid
    obtain ⟨v, l', w', hv, hp, hr⟩ := buildSliceA_run H hF (hnx _ rfl) hbase hav
    refine ⟨_, v, l', w', ?_, .inl rfl, hp, hr⟩
    simp only [execOp, ho, Sem.run_bind, hv, Result.andThen_ok, Sem.run_pure]
  · rename_i T x ho
    simp only [Option.bind_eq_some_iff, Option.map_eq_some_iff, Prod.mk.injEq] at h
    obtain ⟨av, hav, r', hr', rfl, rfl⟩ := h
    obtain ⟨v, hv, hr⟩ := loadA_run (P := P) H (hF _ _ hav) hr'
    exact ⟨v, by simp only [execOp, ho, Sem.run_bind, hv, Result.andThen_ok, Sem.run_pure], hr⟩
  · rename_i T x y ho
    simp only [Option.bind_eq_some_iff, Option.map_eq_some_iff, Prod.mk.injEq] at h
    obtain ⟨av, hav, vv, hvv, ⟨id, o'⟩, hst, rfl, rfl⟩ := h
    obtain ⟨l', w', hv, hp⟩ := storeA_run (P := P) H (hF _ _ hav) (hF _ _ hvv) hst
    refine ⟨.skip, undef, l', w', ?_, .inr ⟨rfl, rfl, rfl⟩, hp, trivial⟩
    simp only [execOp, ho, Sem.run_bind, hv, Result.andThen_ok, Sem.run_pure]
  · rename_i x ho
    simp only [Option.bind_eq_some_iff] at h
    obtain ⟨av, hav, h⟩ := h
    split at h
    · rename_i hn
      simp only [Option.some.injEq, Prod.mk.injEq] at h
      obtain ⟨rfl, rfl⟩ := h
      have hr := hF _ _ hav
      refine ⟨a.eval x, ?_, hr⟩
      rcases nilCheck_rel hr hn with ⟨ad, he⟩ | ⟨f, us, he⟩
      · simp [execOp, ho, he]
      · simp [execOp, ho, he]
    · split at h
      · rename_i hn
        simp only [Option.some.injEq, Prod.mk.injEq] at h
        obtain ⟨rfl, rfl⟩ := h
        obtain ⟨name, first, cap, t, w, rfl, hf, hk⟩ := nilM_run hn
        have hr := hF _ _ hav
        have he : a.eval x = .func (.method name) first cap := plainOf_rel (x := .func (.method name) first cap) hr rfl
        have h2 := peek_run (P := P) hk s.w
        refine ⟨a.eval x, ?_, hr⟩
        have hp : Sem.run P program s.w = .ok P s.w := rfl
        simp only [execOp, ho, he, hf, Sem.run_bind, hp, Result.andThen_ok, h2]
        simp
      · cases h
  · rename_i op T x y t2 ho
    simp only [Option.bind_eq_some_iff, Option.map_eq_some_iff, Prod.mk.injEq] at h
    obtain ⟨ax, hax, vx, hvx, ay, hay, vy, hvy, rv, hrv, c, hc, rfl, rfl⟩ := h
    have h1 := plainOf_rel (hF _ _ hax) hvx
    have h2 := plainOf_rel (hF _ _ hay) hvy
    have h3 := peek_run hrv s.w
    refine ⟨rv, ?_, constA_rel hc⟩
    simp only [execOp, ho, h1, h2, Sem.run_bind] at h3 ⊢
    rw [h3]; rfl
  · rename_i op T x ho
    simp only [Option.bind_eq_some_iff, Option.map_eq_some_iff, Prod.mk.injEq] at h
    obtain ⟨ax, hax, vx, hvx, rv, hrv, c, hc, rfl, rfl⟩ := h
    have h1 := plainOf_rel (hF _ _ hax) hvx
    have h3 := peek_run hrv s.w
    refine ⟨rv, ?_, constA_rel hc⟩
    simp only [execOp, ho, h1, Sem.run_bind, h3, Result.andThen_ok, Sem.run_pure]
  · rename_i src dst x ho
    simp only [Option.bind_eq_some_iff, Option.map_eq_some_iff, Prod.mk.injEq] at h
    obtain ⟨ax, hax, vx, hvx, rv, hrv, c, hc, rfl, rfl⟩ := h
    have h1 := plainOf_rel (hF _ _ hax) hvx
    have h3 := peek_run hrv s.w
    refine ⟨rv, ?_, constA_rel hc⟩
    simp only [execOp, ho, h1, Sem.run_bind, h3, Result.andThen_ok, Sem.run_pure]
  · rename_i T x f ho
    simp only [Option.bind_eq_some_iff, Option.map_eq_some_iff, Prod.mk.injEq] at h
    obtain ⟨av, hav, r', hr', rfl, rfl⟩ := h
    obtain ⟨v, hv, hr⟩ := fieldAddrA_run (P := P) (hF _ _ hav) hr'
    exact ⟨v, by simp only [execOp, ho, Sem.run_bind, hv, Result.andThen_ok, Sem.run_pure], hr⟩
  · rename_i T x f ho
    simp only [Option.bind_eq_some_iff, Option.map_eq_some_iff, Prod.mk.injEq] at h
    obtain ⟨av, hav, r', hr', rfl, rfl⟩ := h
    obtain ⟨v, hv, hr⟩ := fieldA_run (P := P) (hF _ _ hav) hr'
    exact ⟨v, by simp only [execOp, ho, Sem.run_bind, hv, Result.andThen_ok, Sem.run_pure], hr⟩
  · rename_i T x i ho
    simp only [Option.bind_eq_some_iff, Option.map_eq_some_iff, Prod.mk.injEq] at h
    obtain ⟨av, hav, iv, hiv, r', hr', rfl, rfl⟩ := h
    obtain ⟨v, hv, hr⟩ := indexAddrA_run (P := P) H (hF _ _ hav) (hF _ _ hiv) hr'
    exact ⟨v, by simp only [execOp, ho, Sem.run_bind, hv, Result.andThen_ok, Sem.run_pure], hr⟩
  · rename_i T x i ho
    simp only [Option.bind_eq_some_iff, Option.map_eq_some_iff, Prod.mk.injEq] at h
    obtain ⟨av, hav, iv, hiv, r', hr', rfl, rfl⟩ := h
    obtain ⟨v, hv, hr⟩ := indexA_run (P := P) (hF _ _ hav) (hF _ _ hiv) hr'
    exact ⟨v, by simp only [execOp, ho, Sem.run_bind, hv, Result.andThen_ok, Sem.run_pure], hr⟩
  · rename_i x i ho
    simp only [Option.bind_eq_some_iff, Option.map_eq_some_iff, Prod.mk.injEq] at h
    obtain ⟨av, hav, r', hr', rfl, rfl⟩ := h
    obtain ⟨v, hv, hr⟩ := extractA_run (P := P) (hF _ _ hav) hr'
    exact ⟨v, by simp only [execOp, ho, Sem.run_bind, hv, Result.andThen_ok, Sem.run_pure], hr⟩
  · rename_i f first captured ho
    split at h
    · rename_i hfirst
      subst hfirst
      simp only [Option.map_eq_some_iff, Prod.mk.injEq] at h
      obtain ⟨cs, hcs, rfl, rfl⟩ := h
      obtain ⟨h1, h2⟩ := mapM_get hcs
      refine ⟨.func (.func f) #[] (captured.map a.eval), by simp [execOp, ho, Instr.makeFunc], captured.map a.eval, rfl, by simpa using h1.symm, fun j c hj => ?_⟩
      obtain ⟨x, hx, hf⟩ := h2 j c hj
      simp only [cap1, Option.bind_eq_some_iff] at hf
      obtain ⟨av, hav, hc⟩ := hf
      have hx' : captured[j]? = some x := by simpa using hx
      exact ⟨a.eval x, by simp [hx'], capA_rel (hF _ _ hav) hc⟩
    · split at h
      · rename_i hcap
        subst hcap
        split at h
        · rename_i b hb
          simp only [Option.some.injEq, Prod.mk.injEq] at h
          obtain ⟨rfl, rfl⟩ := h
          unfold bfxOf at hb
          split at hb
          · rename_i x hx
            simp only [Option.bind_eq_some_iff] at hb
            obtain ⟨av, hav, hb⟩ := hb
            obtain ⟨cs, blk, g1, g2, g3⟩ := boxOf_rel (hF _ _ hav) hb
            have hfe : first = #[x] := by apply Array.ext'; rw [hx]
            subst hfe
            refine ⟨.func (.func f) #[a.eval x] #[], by simp [execOp, ho, Instr.makeFunc], cs, blk, g1, g2, by rw [g3]⟩
          · cases hb
        · simp only [Option.map_eq_some_iff, Prod.mk.injEq] at h
          obtain ⟨rs, hrs, rfl, rfl⟩ := h
          obtain ⟨h1, h2⟩ := mapM_get hrs
          refine ⟨.func (.func f) (first.map a.eval) #[], by simp [execOp, ho, Instr.makeFunc], first.map a.eval, rfl, by simpa using h1.symm, fun j c hj => ?_⟩
          obtain ⟨x, hx, hf⟩ := h2 j c hj
          simp only [dat1, Option.bind_eq_some_iff] at hf
          obtain ⟨av, hav, hc⟩ := hf
          have hx' : first[j]? = some x := by simpa using hx
          exact ⟨a.eval x, by simp [hx'], datC_rel H (hF _ _ hav) hc⟩
      · cases h
  · rename_i name first captured ho
    split at h
    · rename_i hcap
      subst hcap
      simp only [Option.map_eq_some_iff, Prod.mk.injEq] at h
      obtain ⟨vs, hvs, rfl, rfl⟩ := h
      have h1 := plains_rel hF hvs
      refine ⟨.func (.method name) vs.toArray #[], ?_, .v _ rfl⟩
      simp [execOp, ho, Instr.makeFunc, h1]
    · cases h
  · rename_i T x ho
    rw [Option.bind_eq_some_iff] at h
    obtain ⟨ax, hax, h⟩ := h
    split at h
    · rename_i b hb
      split at h
      · rename_i hc
        simp only [Option.some.injEq, Prod.mk.injEq] at h
        obtain ⟨rfl, rfl⟩ := h
        obtain ⟨cs, blk, g1, g2, g3⟩ := boxOf_rel (hF _ _ hax) hb
        refine ⟨.iface T (a.eval x), ?_, cs, blk, g1, g2, by rw [g3]⟩
        have h2 := concT_run hc (a.eval x) s.w
        simp only [execOp, ho, Sem.run_bind, h2, Result.andThen_ok, Sem.run_pure]
      · cases h
    · simp only [Option.bind_eq_some_iff, Option.map_eq_some_iff, Prod.mk.injEq] at h
      obtain ⟨vx, hvx, rv, hrv, av, hav, rfl, rfl⟩ := h
      refine ⟨rv, ?_, constA_rel hav⟩
      have h1 := plainOf_rel (hF _ _ hax) hvx
      have h2 := peek_run (P := P) hrv s.w
      simp only [execOp, ho, Sem.run_bind, h1, h2, Result.andThen_ok, Sem.run_pure]
  · rename_i args argTypes ho
    split at h
    · rename_i x t ha ht
      simp only [Option.bind_eq_some_iff, Option.map_eq_some_iff, Prod.mk.injEq] at h
      obtain ⟨e, he, ax, hax, n, hn, rfl, rfl⟩ := h
      have hd := underlying_slice he
      obtain ⟨ao, cap, hu⟩ := lenA_rel H (hF _ _ hax) hn
      have ha' : args = #[x] := by rw [← Array.toArray_toList (xs := args), ha]
      have ht' : argTypes = #[t] := by rw [← Array.toArray_toList (xs := argTypes), ht]
      subst ha' ht'
      refine ⟨.int .i64 n, ?_, .v _ rfl⟩
      simp [execOp, ho, resolve, invoke, builtin, Builtin.len_, run_underlying hd, hu, goInt]
    · cases h
  · rename_i args argTypes ho
    split at h
    · rename_i x y T T' ha ht
      simp only [Option.bind_eq_some_iff, Option.map_eq_some_iff, Prod.mk.injEq] at h
      obtain ⟨aa, haa, ax, hax, ⟨av, id, o'⟩, hap, rfl, rfl⟩ := h
      have ha' : args = #[x, y] := by rw [← Array.toArray_toList (xs := args), ha]
      have ht' : argTypes = #[T, T'] := by rw [← Array.toArray_toList (xs := argTypes), ht]
      subst ha' ht'
      obtain ⟨v, l', w', hv, hp, hr⟩ := appendA_run H hbase o.type (hF _ _ haa) (hF _ _ hax) hap (fun e => by subst e; exact hnx _ rfl)
      refine ⟨.value v, v, l', w', ?_, .inl rfl, hp, hr⟩
      simp [execOp, ho, resolve, invoke, builtin, hv]
    · cases h
  · rename_i args argTypes ho
    simp only [Option.bind_eq_some_iff, Option.map_eq_some_iff, Prod.mk.injEq] at h
    obtain ⟨l, hl, rv, hrv, c, hc, rfl, rfl⟩ := h
    have h1 := plains_rel hF hl
    have h3 := peek_run hrv s.w
    refine ⟨rv, ?_, constA_rel hc⟩
    have h4 : ∀ t1, Builtin.min_ t1 o.type l.toArray = Builtin.min_ #[] o.type l.toArray := fun _ => rfl
    simp [execOp, ho, resolve, invoke, builtin, h1, h4, h3]
  · rename_i args argTypes ho
    simp only [Option.bind_eq_some_iff, Option.map_eq_some_iff, Prod.mk.injEq] at h
    obtain ⟨l, hl, rv, hrv, c, hc, rfl, rfl⟩ := h
    have h1 := plains_rel hF hl
    have h3 := peek_run hrv s.w
    refine ⟨rv, ?_, constA_rel hc⟩
    have h4 : ∀ t1, Builtin.max_ t1 o.type l.toArray = Builtin.max_ #[] o.type l.toArray := fun _ => rfl
    simp [execOp, ho, resolve, invoke, builtin, h1, h4, h3]
  · cases h
end Go.Pv
namespace Go.Pv
open Go Go.RowKit Go.Sh
theorem AL.get_set {α : Type} (l : List (Nat × α)) (t : Nat) (x : α) (t' : Nat) : AL.get (AL.set l t x) t' = if t' = t then some x else AL.get l t' := rfl
theorem AL.get_nil {α : Type} (t : Nat) : AL.get ([] : List (Nat × α)) t = none := rfl
theorem AL.get_eq {α : Type} (l : List (Nat × α)) (t : Nat) (x : α) : AL.get ((t, x) :: l) t = some x := by simp [AL.get]
theorem AL.get_ne {α : Type} (l : List (Nat × α)) {t k : Nat} (x : α) (h : t ≠ k) : AL.get ((k, x) :: l) t = AL.get l t := by simp [AL.get, h]
theorem AL.get_set_upd {α : Type} (l : List (Nat × α)) (t : Nat) (x : α) : AL.get (AL.set l t x) = upd (AL.get l) t x := by
  funext t'; rw [AL.get_set]; rfl
structure St where
  fr : List (Nat × AV)
  hp : List (Nat × Obj')
  nx : Nat
structure Kx where
  P : Program
  Z : Zn
  w0 : World
  cap : Nat → Prop
  nt : Nat
  rd : Option Nat
  pan : List PanicEntry → St → Prop
  df : Option Nat
  dk : List Nat
  rg : Bool
def Kx.F (K : Kx) : Fence := { Fence.wide with round := K.rd }
def ansFid (P : Program) : Nat := (P.funcs.findIdx? fun f => f.name == "shearworks/classer.answer" || f.name == "shearworks/boy.answer").getD 0
def dfOf (P : Program) : Value → Deferred
  | .func fn first caps => { target := .fn fn caps, args := first }
  | .pointer p => { target := .fn (.func (ansFid P)) #[], args := #[.pointer p] }
  | _ => { target := .nil, args := #[] }
def dfL (K : Kx) (a : Act) : List Deferred := match K.df with | some t => [dfOf K.P (a.tmps.getD t undef)] | none => []
def collD (D : Nat) : Deferred := { target := .collected D, args := #[] }
def Dfr (K : Kx) (a : Act) (w : World) : Prop := ∃ Ds : List Nat, a.defers = Ds.map collD ++ dfL K a ∧ Ds.Nodup ∧ (∀ D ∈ Ds, K.w0.heap.size ≤ D ∧ D ∉ K.dk ∧ DfrAt w D) ∧ (∀ D ∈ K.dk, DfrAt w D) ∧ (K.rg = false → Ds = [])
theorem Dfr.to {K : Kx} {a a' : Act} {w w' : World} (h : Dfr K a w) (ha : a'.defers = a.defers) (ht : dfL K a' = dfL K a) (hw : ∀ D, DfrAt w D → DfrAt w' D) : Dfr K a' w' :=
  let ⟨Ds, h1, h2, h3, h4, h5⟩ := h; ⟨Ds, by rw [ha, ht]; exact h1, h2, fun D hD => ⟨(h3 D hD).1, (h3 D hD).2.1, hw D (h3 D hD).2.2⟩, fun D hD => hw D (h4 D hD), h5⟩
theorem dfr_below {w w' : World} (h : Below w.heap.size w w') : ∀ D, DfrAt w D → DfrAt w' D :=
  dfr_kept fun k hk => h.block k hk
def sit (K : Kx) (σ : Nat → Option Value) (st : St) (w : World) : Sit := ⟨K.Z, K.w0.heap.size, K.cap, σ, AL.get st.hp, w⟩
structure Rel (K : Kx) (σ : Nat → Option Value) (st : St) (a : Act) (w : World) : Prop where
  heap : Heap0 (sit K σ st w)
  fr : RelF (sit K σ st w) (AL.get st.fr) a
  lt : ∀ id o, AL.get st.hp id = some o → id < st.nx
  df : Dfr K a w
  nt : a.tmps.size = K.nt
  frm : Frm K.cap K.w0 w
def St.put (st : St) (dst : Option Tmp) (av : AV) : St := match dst with | some d => { st with fr := AL.set st.fr d av } | none => st
def St.upd (st : St) : Option (Nat × Obj') → St
  | none => st
  | some (id, o) => { st with hp := AL.set st.hp id o, nx := if id < st.nx then st.nx else id + 1 }
variable {K : Kx}
theorem getD_set {ts : Array Value} {d t : Nat} {v : Value} (hd : d < ts.size) : (ts.setIfInBounds d v).getD t undef = if t = d then v else ts.getD t undef := by
  rw [Array.getD_eq_getD_getElem?, Array.getD_eq_getD_getElem?]
  by_cases h : t = d
  · subst h; simp [hd]
  · rw [Array.getElem?_setIfInBounds_ne (by omega), if_neg h]
theorem RelF.put {s : Sit} {fr : List (Nat × AV)} {a : Act} (h : RelF s (AL.get fr) a) {d : Nat} {av : AV} {v : Value} (hd : d < a.tmps.size) (hv : RelV s av v) : RelF s (AL.get (AL.set fr d av)) (a.put (some d) v) := by
  intro t av' ht
  rw [AL.get_set] at ht
  simp only [Act.put, Array.size_setIfInBounds, getD_set hd]
  split at ht
  · rename_i he
    cases ht
    exact ⟨by omega, by rw [if_pos he]; exact hv⟩
  · rename_i he
    rw [if_neg he]
    exact h t av' ht
def dstOK (K : Kx) : Option Tmp → Bool
  | none => true
  | some d => decide (d < K.nt) && (match K.df with | some t => decide (d ≠ t) | none => true)
theorem dfL_put {K : Kx} {a : Act} {dst : Option Tmp} {v : Value} (hd : dstOK K dst = true) : dfL K (a.put dst v) = dfL K a := by
  unfold dfL
  cases hk : K.df with
  | none => rfl
  | some t =>
    cases dst with
    | none => rfl
    | some d =>
      simp only [dstOK, hk, Bool.and_eq_true, decide_eq_true_eq] at hd
      simp only [Act.put]
      congr 2
      rw [Array.getD_eq_getD_getElem?, Array.getD_eq_getD_getElem?, Array.getElem?_setIfInBounds_ne hd.2]
theorem dstOK_lt {K : Kx} {d : Tmp} (h : dstOK K (some d) = true) : d < K.nt := by
  simp only [dstOK, Bool.and_eq_true, decide_eq_true_eq] at h
  exact h.1
theorem Rel.put {σ : Nat → Option Value} {st : St} {a : Act} {w : World} (h : Rel K σ st a w) {dst : Option Tmp} {av : AV} {v : Value} (hd : dstOK K dst = true) (hv : RelV (sit K σ st w) av v) : Rel K σ (st.put dst av) (a.put dst v) w := by
  cases dst with
  | none => exact h
  | some d =>
    have hd' : d < a.tmps.size := by rw [h.nt]; exact dstOK_lt hd
    exact ⟨h.heap, RelF.put h.fr hd' hv, h.lt, h.df.to rfl (dfL_put hd) fun _ h => h, by simp only [Act.put, Array.size_setIfInBounds]; exact h.nt, h.frm⟩
theorem Rel.at {σ : Nat → Option Value} {st : St} {a : Act} {w w' : World} (h : Rel K σ st a w) (hb : Below w.heap.size w w') : Rel K σ st a w' :=
  ⟨h.heap.at hb, fun t av ht => ⟨(h.fr t av ht).1, (Sit.ext_at (s := sit K σ st w) hb).relV (h.fr t av ht).2⟩, h.lt, h.df.to rfl rfl (dfr_below hb), h.nt, h.frm.trans (Frm.of_below hb)⟩
theorem Rel.fresh {σ : Nat → Option Value} {st : St} {a : Act} {w : World} (h : Rel K σ st a w) {id : Nat} (hid : st.nx ≤ id) : σ id = none := by
  cases hq : σ id with
  | none => rfl
  | some l =>
    obtain ⟨o, ho⟩ := h.heap.dom id l hq
    have := h.lt id o ho
    omega
theorem Rel.upd {σ : Nat → Option Value} {st : St} {a : Act} {w w' : World} (h : Rel K σ st a w) {id : Nat} {o' : Obj'} {l' : Value} (hp : Put (sit K σ st w) id o' l' w') : Rel K (Pv.upd σ id l') (st.upd (some (id, o'))) a w' := by
  have hs : sit K (Pv.upd σ id l') (st.upd (some (id, o'))) w' = (sit K σ st w).put id o' l' w' := by
    unfold sit Sit.put St.upd
    simp only [AL.get_set_upd]
  refine ⟨by rw [hs]; exact hp.heap, fun t av ht => ⟨(h.fr t av ht).1, by rw [hs]; exact hp.ext.relV (h.fr t av ht).2⟩, fun i o hi => ?_, h.df.to rfl rfl (hp.dfr h.heap), h.nt, ⟨hp.os.trans h.frm.os, hp.tape.trans h.frm.tape, hp.output.trans h.frm.output, Nat.le_trans h.frm.size hp.size, fun k hk hn => ?_⟩⟩
  · simp only [St.upd, AL.get_set] at hi ⊢
    split at hi
    · split <;> omega
    · have := h.lt i o hi
      split <;> omega
  · refine (hp.fr k (Nat.lt_of_lt_of_le hk h.frm.size) fun l hl hb => ?_).trans (h.frm.block k hk hn)
    rcases (h.heap.lt id l k hl hb).2 with h1 | h1
    · exact absurd h1 (by simp only [sit]; omega)
    · exact hn h1
theorem Rel.put_upd {σ : Nat → Option Value} {st : St} {a : Act} {w w' : World} (h : Rel K σ st a w) {id : Nat} {o' : Obj'} {l' : Value} (hp : Put (sit K σ st w) id o' l' w') {dst : Option Tmp} {av : AV} {v : Value} (hd : dstOK K dst = true)
    (hv : RelV ((sit K σ st w).put id o' l' w') av v) : Rel K (Pv.upd σ id l') ((st.upd (some (id, o'))).put dst av) (a.put dst v) w' := by
  have hs : sit K (Pv.upd σ id l') (st.upd (some (id, o'))) w' = (sit K σ st w).put id o' l' w' := by
    unfold sit Sit.put St.upd
    simp only [AL.get_set_upd]
  exact (h.upd hp).put hd (by rw [hs]; exact hv)
def wantedA (fr : Nat → Option AV) (ops : Array Oper) (o : Oper) : Option Bool :=
  match o.guard with
  | none => some true
  | some (j, want) => match (ops[j]?).bind (·.dst) with
    | none => none
    | some d => match fr d with
      | some (.one (.p (.v (.bool b)))) => some (b == want)
      | some .und => some false
      | _ => none
theorem wantedA_spec {s : Sit} {fr : Nat → Option AV} {a : Act} (hF : RelF s fr a) {ops : Array Oper} {o : Oper} {b : Bool} (h : wantedA fr ops o = some b) : Region.wanted o (yielded ops a.tmps) = b := by
  unfold wantedA at h
  unfold Region.wanted
  split at h
  · rename_i hg; cases h; rw [hg]
  · rename_i j want hg
    rw [hg]
    simp only
    split at h
    · cases h
    · rename_i d hd
      have key : ∀ av, fr d = some av → yielded ops a.tmps j = match a.tmps.getD d undef with | .bool b => some b | _ => none := by
        intro av hav
        have hlt := (hF d av hav).1
        unfold yielded
        rw [hd]
        simp only [Option.bind_some, Array.getElem?_eq_getElem hlt, Array.getD_eq_getD_getElem?, Option.getD_some]
        cases a.tmps[d] <;> rfl
      split at h
      · rename_i b' hb
        cases h
        have h1 := (hF d _ hb).2
        have h2 : a.tmps.getD d undef = .bool b' := by
          generalize a.tmps.getD d undef = q at h1
          cases h1; rfl
        rw [key _ hb, h2]
        simp
      · rename_i hb
        cases h
        have h1 : a.tmps.getD d undef = undef := (hF d _ hb).2
        rw [key _ hb, h1]
        rfl
      · cases h
def cellPV : AC → PV
  | .p x => x
  | .nil => .sl []
  | _ => .any
theorem cellPV_rel {s : Sit} (H : Heap0 s) {c : AC} {u : Value} (h : RelC s c u) : RelP s.Safe s.w (cellPV c) u := by
  have h1 := h.one H
  cases c with
  | p x => exact h
  | nil => rw [show u = .slice none 0 0 from h]; exact relP_nil none 0
  | _ => exact .any u h1
def pvA (any : Bool) (h : Nat → Option Obj') : AC → Option PV
  | .p x => some x
  | .nil => some (.sl [])
  | .own t n => match h t with | some (.arr _ _ rows sh) => if any = true ∨ sh = true then some (.sl (rows.take n)) else none | _ => none
  | .box b 0 => if any = true then (match h b with | some (.box cs) => some (.ptr (cs.map cellPV)) | _ => none) else none
  | _ => none
def rvA (any : Bool) (h : Nat → Option Obj') : AV → Option RV
  | .one c => (pvA any h c).map .one
  | .agg cs => (cs.mapM (pvA any h)).map .agg
  | _ => none
def Sit.Zc (s : Sit) (any : Bool) (b c : Nat) : Prop := s.Safe b c ∨ (any = true ∧ ∃ id l, s.σ id = some l ∧ locBlk l = some b)
theorem pvA_rel {s : Sit} (H : Heap0 s) {any : Bool} {c : AC} {u : Value} {x : PV} (h : RelC s c u) (hx : pvA any s.h c = some x) : RelP (s.Zc any) s.w x u := by
  have hm : ∀ {y : PV}, RelP s.Safe s.w y u → RelP (s.Zc any) s.w y u := fun hy => hy.mono fun _ _ _ hz hc => ⟨.inl hz, hc⟩
  unfold pvA at hx
  split at hx
  · cases hx; exact hm h
  · cases hx; subst h; exact relP_nil none 0
  · rename_i t n
    split at hx
    · rename_i E k rows sh hh
      split at hx
      · rename_i hc
        cases hx
        obtain ⟨E', k', rows', sh', val, xs, h1, h2, h3, h4, h5, h6, h7⟩ := own_cases H h
        rw [hh] at h1; cases h1
        rcases h7 with ⟨rfl, rfl⟩ | ⟨_, _, h7⟩
        · rcases hc with rfl | rfl
          · refine relP_take (relP_own h3 h4 (fun i row j c hi hj => ?_) fun b hb c _ => .inr ⟨rfl, t, _, h2, by rw [locBlk_own h3]; exact hb⟩)
            obtain ⟨u, hu, hr⟩ := h5 i row j c hi hj
            exact ⟨u, hu, hr.mono fun _ _ _ hz hc => ⟨.inl hz, hc⟩⟩
          · exact hm (relP_take (own_shared H hh h2 h3 h4 h5))
        · exact hm h7
      · cases hx
    · cases hx
  · rename_i b
    split at hx
    · rename_i ha
      split at hx
      · rename_i cs hb
        cases hx
        obtain ⟨cs0, blk, e1, e2, rfl⟩ := h
        rw [hb] at e1; cases e1
        obtain ⟨blk', vs, ty, e3, e4, e5⟩ := H.objs _ _ hb
        rw [e2] at e3; cases e3
        have hcell : ∀ (j : Nat) (c : PV), (cs.map cellPV)[j]? = some c → ∃ x, vs[j]? = some x ∧ RelP s.Safe s.w c x := by
          intro j c hj
          rw [List.getElem?_map] at hj
          obtain ⟨ac, hac, rfl⟩ := Option.map_eq_some_iff.1 hj
          obtain ⟨x, hx, hrx⟩ := e5.2 j ac hac
          exact ⟨x, hx, cellPV_rel H hrx⟩
        refine .ptr (cs.map cellPV) blk 0 (fun j => (vs[j]?).getD default) (fun j c hj => ?_) (fun j c hj => .inr ⟨ha, b, _, e2, rfl⟩) (fun j c hj => ?_)
        · obtain ⟨x, hx, _⟩ := hcell j c hj
          rw [cell_of_row s.w blk _ vs ty (0, 0) e4, Nat.zero_add, hx]; rfl
        · obtain ⟨x, hx, hrx⟩ := hcell j c hj
          rw [hx]
          exact hrx.mono fun _ _ _ hz hc => ⟨.inl hz, hc⟩
      · cases hx
    · cases hx
  · cases hx
theorem rvA_rel {s : Sit} (H : Heap0 s) {any : Bool} {av : AV} {u : Value} {x : RV} (h : RelV s av u) (hx : rvA any s.h av = some x) : RelR (s.Zc any) s.w x u := by
  unfold rvA at hx
  split at hx
  · simp only [Option.map_eq_some_iff] at hx
    obtain ⟨y, hy, rfl⟩ := hx
    exact pvA_rel H h hy
  · simp only [Option.map_eq_some_iff] at hx
    obtain ⟨ys, hys, rfl⟩ := hx
    obtain ⟨us, rfl, hs, hr⟩ := h
    obtain ⟨h1, h2⟩ := mapM_get hys
    refine ⟨us, rfl, by rw [hs, h1], fun j c hj => ?_⟩
    obtain ⟨ac, hac, hf⟩ := h2 j c hj
    obtain ⟨x, hx, hrx⟩ := hr j ac hac
    exact ⟨x, hx, pvA_rel H hrx hf⟩
  · cases hx
inductive RR where
  | one (r : RV)
  | tup (rs : List RV)
  deriving Inhabited
def RelRR (Z : Zn) (w : World) : RR → Value → Prop
  | .one r, u => RelR Z w r u
  | .tup rs, u => ∃ us, u = .tuple us ∧ RelRs Z w rs us
def avRR : RR → AV
  | .one r => avR r
  | .tup rs => .tup rs
theorem avRR_rel {s : Sit} {r : RR} {u : Value} (h : RelRR s.Safe s.w r u) : RelV s (avRR r) u := by
  cases r with
  | one r => exact avR_rel h
  | tup rs => exact h
theorem RelRR.mono {Z Z' : Zn} {w w' : World} (h : ∀ (b c : Nat) (u : Value), Z b c → w.cell? ⟨b, c, none⟩ = some u → Z' b c ∧ w'.cell? ⟨b, c, none⟩ = some u) {x : RR} {u : Value} (hx : RelRR Z w x u) : RelRR Z' w' x u := by
  cases x with
  | one x => exact RelR.mono h hx
  | tup rs => obtain ⟨us, rfl, hx⟩ := hx; exact ⟨us, rfl, hx.mono h⟩
def flatP : PV → Bool
  | .v _ | .any => true
  | .sl _ | .ptr _ => false
def flatR : RV → Bool
  | .one x => flatP x
  | .agg cs => cs.all flatP
def flatRR : RR → Bool
  | .one r => flatR r
  | .tup rs => rs.all flatR
theorem flatP_rel {Z Z' : Zn} {w w' : World} {x : PV} {u : Value} (hf : flatP x = true) (h : RelP Z w x u) : RelP Z' w' x u := by
  cases h with
  | v _ h1 => exact .v _ h1
  | sl => cases hf
  | ptr => cases hf
  | any _ h1 => exact .any _ h1
theorem flatR_rel {Z Z' : Zn} {w w' : World} {x : RV} {u : Value} (hf : flatR x = true) (h : RelR Z w x u) : RelR Z' w' x u := by
  cases x with
  | one x => exact flatP_rel hf h
  | agg cs =>
    obtain ⟨us, rfl, hs, h⟩ := h
    exact ⟨us, rfl, hs, fun j c hj => let ⟨x, hx, hr⟩ := h j c hj; ⟨x, hx, flatP_rel (List.all_eq_true.1 hf c (List.mem_of_getElem? hj)) hr⟩⟩
theorem flatRR_rel {Z Z' : Zn} {w w' : World} {x : RR} {u : Value} (hf : flatRR x = true) (h : RelRR Z w x u) : RelRR Z' w' x u := by
  cases x with
  | one x => exact flatR_rel hf h
  | tup rs =>
    obtain ⟨us, rfl, hs, h⟩ := h
    exact ⟨us, rfl, hs, fun j c hj => let ⟨x, hx, hr⟩ := h j c hj; ⟨x, hx, flatR_rel (List.all_eq_true.1 hf c (List.mem_of_getElem? hj)) hr⟩⟩
def FunOK (P : Program) (f : FuncId) (args : List RV) (res : RR) : Prop :=
  ∀ (Z : Zn) (w : World) (us : Array Value), RelRs Z w args us → Calls P f us w fun e w' => ∃ u, e = .returned u ∧ RelRR (fun b c => Z b c ∨ w.heap.size ≤ b) w' res u ∧ Below w.heap.size w w'
def fnA : AV → Option (FuncId × List CC)
  | .one (.fn f caps) => some (f, caps)
  | _ => none
def arg1 (fr : Nat → Option AV) (h : Nat → Option Obj') (any : Bool) (x : Operand) : Option RV := (evalA fr x).bind (rvA any h)
def callPre (st : St) (args : Array Operand) (f : Operand) (fid : FuncId) (rvs : List RV) (any : Bool) : Prop :=
  (evalA (AL.get st.fr) f).bind fnA = some (fid, []) ∧ (args.toList.mapM (arg1 (AL.get st.fr) (AL.get st.hp) any)) = some rvs
def nextA (K : Kx) (Q : St → Prop) : Act → World → Prop := fun a' w' => ∃ σ' st', Rel K σ' st' a' w' ∧ Q st'
def panA (K : Kx) : Exit → Act → World → Prop := fun e a' w' => ∃ ps, e = .panic ps ∧ ∃ σ' st', Rel K σ' st' a' w' ∧ K.pan ps st'
def CallS (K : Kx) (st : St) (o : Oper) (Q : St → Prop) : Prop :=
  ∀ σ a w, Rel K σ st a w → o.wpIn K.F 0 K.P a w (nextA K Q) (panA K)
def isCallOp : Op → Bool
  | .call { callee := .value _, .. } => true
  | .call { callee := .invoke _ _, .. } => true
  | .call { callee := .builtin .copy, .. } => true
  | .makeMap .. | .makeSlice .. | .slice .. | .lookup .. | .mapUpdate .. | .next .. | .entry .. | .range .. | .typeAssert .. | .panic .. => true
  | _ => false
def evOps (K : Kx) (ops : Array Oper) : List Oper → St → (St → Prop) → Prop
  | [], st, Q => Q st
  | o :: r, st, Q =>
    match wantedA (AL.get st.fr) ops o with
    | none => False
    | some false => dstOK K o.dst = true ∧ evOps K ops r (st.put o.dst .und) Q
    | some true => dstOK K o.dst = true ∧
      match opA K.P (AL.get st.fr) (AL.get st.hp) st.nx o with
      | some (av, wr) => evOps K ops r ((st.upd wr).put o.dst av) Q
      | none => (∃ f args argTypes fid rvs any res, o.op = .call { callee := .value f, args := args, argTypes := argTypes } ∧ callPre st args f fid rvs any ∧ (any = true → flatRR res = true) ∧ FunOK K.P fid rvs res ∧
          (∃ fn, K.P.funcs[fid]? = some fn ∧ fn.body.isSome = true ∧ fn.name ≠ "runtime.NumGoroutine") ∧ evOps K ops r (st.put o.dst (avRR res)) Q) ∨
        (isCallOp o.op = true ∧ CallS K st o fun st' => evOps K ops r st' Q)
end Go.Pv
namespace Go.Pv
open Go Go.RowKit Go.Sh
variable {K : Kx}
theorem run_callFunc {P : Program} {f : FuncId} {fn : Func} (hf : P.funcs[f]? = some fn) (hb : fn.body.isSome = true) (hn : fn.name ≠ "runtime.NumGoroutine") (args : Array Value) (w : World) : (callFunc f args).run P w = .ok (.enter f args) w := by
  have hb' : fn.body ≠ none := by intro h; rw [h] at hb; cases hb
  simp [callFunc, program, Sem.run, hf, hb', hn]
theorem relRR_after {σ : Nat → Option Value} {st : St} {a : Act} {w w' : World} (h : Rel K σ st a w) {any : Bool} {res : RR} {u : Value} (hf : any = true → flatRR res = true)
    (hr : RelRR (fun b c => (sit K σ st w).Zc any b c ∨ w.heap.size ≤ b) w' res u) : RelRR (sit K σ st w').Safe w' res u := by
  cases any with
  | true => exact flatRR_rel (hf rfl) hr
  | false =>
    refine hr.mono fun b c u hz hc => ⟨?_, hc⟩
    rcases hz with (hz | ⟨hz, _⟩) | hz
    · exact hz
    · cases hz
    · refine ⟨.inr (Nat.le_trans h.frm.size hz), fun id l hl hb => ?_⟩
      have := (h.heap.lt id l b hl hb).1
      simp only [sit] at this; omega
theorem args_rel {s : Sit} (H : Heap0 s) {fr : Nat → Option AV} {a : Act} (hF : ∀ x av, evalA fr x = some av → RelV s av (a.eval x)) {any : Bool} {args : Array Operand} {rvs : List RV}
    (h : (args.toList.mapM (arg1 fr s.h any)) = some rvs) : RelRs (s.Zc any) s.w rvs (args.map a.eval) := by
  obtain ⟨h1, h2⟩ := mapM_get h
  refine ⟨by simpa using h1.symm, fun j r hj => ?_⟩
  obtain ⟨x, hx, hf⟩ := h2 j r hj
  simp only [arg1, Option.bind_eq_some_iff] at hf
  obtain ⟨av, hav, hr⟩ := hf
  have hx' : args[j]? = some x := by simpa using hx
  exact ⟨a.eval x, by simp [hx'], rvA_rel H (hF x av hav) hr⟩
theorem fn_rel {s : Sit} {fr : Nat → Option AV} {a : Act} (hF : ∀ x av, evalA fr x = some av → RelV s av (a.eval x)) {f : Operand} {fid : FuncId} {caps : List CC} (h : (evalA fr f).bind fnA = some (fid, caps)) : ∃ us, a.eval f = .func (.func fid) #[] us ∧ us.size = caps.length ∧ ∀ (j : Nat) (c : CC), caps[j]? = some c → ∃ x, us[j]? = some x ∧ RelCC s c x := by
  simp only [Option.bind_eq_some_iff] at h
  obtain ⟨av, hav, hfn⟩ := h
  have := hF f av hav
  unfold fnA at hfn
  split at hfn
  · cases hfn
    exact this
  · cases hfn
theorem Rel.evF {σ : Nat → Option Value} {st : St} {a : Act} {w : World} (h : Rel K σ st a w) : ∀ x av, evalA (AL.get st.fr) x = some av → RelV (sit K σ st w) av (a.eval x) := fun _ _ hx => evalA_rel h.fr hx
theorem callsIn_K {P : Program} {f : FuncId} {args : Array Value} {w : World} {R : Ending → World → Prop} (h : Calls P f args w R) : CallsIn K.F 0 P f args w R := by
  unfold Kx.F
  cases K.rd with
  | none => exact callsIn_wide.2 h
  | some l => exact CallsIn.inRound l (callsIn_wide.2 h)
theorem depth_K : K.F.depth.isSome = true → 1 ≤ 0 := by intro h; cases h
theorem wpIn_of {o : Oper} {a : Act} {w : World} {next : Act → World → Prop} {Q : Exit → Act → World → Prop} (hd : ∀ c, o.op ≠ .defer c) (h : o.uponIn K.F 0 K.P a next Q ((execOp a.eval o).run K.P w)) : o.wpIn K.F 0 K.P a w next Q :=
  ⟨fun f _ => trivial, by rw [Oper.semAt_eq _ _ _ hd]; exact h⟩
theorem opA_defer {P : Program} {fr : Nat → Option AV} {h : Nat → Option Obj'} {nx : Nat} {o : Oper} {r : AV × Option (Nat × Obj')} (hop : opA P fr h nx o = some r) : ∀ c, o.op ≠ .defer c := by
  intro c hc
  unfold opA at hop
  rw [hc] at hop
  cases hop
theorem uponIn_mono {o : Oper} {a : Act} {next next' : Act → World → Prop} {Q Q' : Exit → Act → World → Prop} (hn : ∀ a w, next a w → next' a w) (hq : ∀ e a w, Q e a w → Q' e a w) : ∀ {r : Result Next}, o.uponIn K.F 0 K.P a next Q r → o.uponIn K.F 0 K.P a next' Q' r
  | .ok (.value v) w', h => hn _ _ h
  | .ok .skip w', h => hn _ _ h
  | .ok (.defer d) w', h => hn _ _ h
  | .ok (.enter f args) w', h => ⟨h.1, h.2.mono fun e w' he => by
      cases e with
      | returned v => exact hn _ _ he
      | panicked c => exact hq _ _ _ he
      | outgrown => obtain ⟨a, w, h⟩ := he; exact ⟨a, w, hq _ _ _ h⟩⟩
  | .ok (.row row args) w', h => ⟨h.1, RowsIn.mono h.2 fun v w' h => hn _ _ h⟩
  | .ok (.round l f tmps assign body) w', h => ⟨h.1, h.2.mono fun e w' he => by
      cases e with
      | returned v => exact hn _ _ he
      | panicked c => exact hq _ _ _ he
      | outgrown => obtain ⟨a, w, h⟩ := he; exact ⟨a, w, hq _ _ _ h⟩⟩
  | .halt (.panic v) w', h => hq _ _ _ h
theorem operIn_mono {o : Oper} {a : Act} {w : World} {next next' : Act → World → Prop} {Q Q' : Exit → Act → World → Prop} (h : o.wpIn K.F 0 K.P a w next Q) (hn : ∀ a w, next a w → next' a w) (hq : ∀ e a w, Q e a w → Q' e a w) : o.wpIn K.F 0 K.P a w next' Q' :=
  ⟨h.1, uponIn_mono hn hq h.2⟩
theorem evOps_sound {ops : Array Oper} {Qr : Exit → Act → World → Prop} (hpan : ∀ e a' w', panA K e a' w' → Qr e a' w') : ∀ (l : List Oper) (st : St) (σ : Nat → Option Value) (a : Act) (w : World) (Q : St → Prop), evOps K ops l st Q → Rel K σ st a w →
    (∀ σ' st' a' w', Q st' → Rel K σ' st' a' w' → Qr .normal a' w') → wpListIn K.F 0 K.P ops Qr l a w
  | [], st, σ, a, w, Q, h, hr, hq => hq σ st a w h hr
  | o :: r, st, σ, a, w, Q, h, hr, hq => by
    unfold evOps at h
    unfold wpListIn
    split at h
    · exact h.elim
    · rename_i hw
      rw [wantedA_spec hr.fr hw]
      simp only [Bool.false_eq_true, if_false]
      exact ⟨fun _ _ => trivial, evOps_sound hpan r _ σ _ w Q h.2 (hr.put h.1 rfl) hq⟩
    · rename_i hw
      rw [wantedA_spec hr.fr hw]
      simp only [if_true]
      obtain ⟨hd, h⟩ := h
      split at h
      · rename_i av wr hop
        have hnd := opA_defer hop
        have hs := opA_sound (P := K.P) hr.heap hr.evF hr.frm.size hop (fun _ _ => hr.fresh (Nat.le_refl _))
        cases wr with
        | none =>
          obtain ⟨u, hu, hv⟩ := hs
          refine wpIn_of hnd ?_
          rw [show (execOp a.eval o).run K.P w = _ from hu]
          exact evOps_sound hpan r _ σ _ w Q h (hr.put hd hv) hq
        | some p =>
          obtain ⟨id, o'⟩ := p
          obtain ⟨n, u, l', w', hu, hn, hp, hv⟩ := hs
          refine wpIn_of hnd ?_
          rw [show (execOp a.eval o).run K.P w = _ from hu]
          rcases hn with rfl | ⟨rfl, rfl, rfl⟩
          · exact evOps_sound hpan r _ _ _ w' Q h (hr.put_upd hp hd hv) hq
          · exact evOps_sound hpan r _ _ _ w' Q h (hr.put_upd hp hd hv) hq
      · rcases h with ⟨f, args, argTypes, fid, rvs, any, res, ho, ⟨hc1, hc2⟩, hfl, hfun, ⟨fn, hfn, hb, hnm⟩, h⟩ | ⟨_, h⟩
        · obtain ⟨us, hus, hs0, _⟩ := fn_rel hr.evF hc1
          have hus0 : us = #[] := Array.eq_empty_of_size_eq_zero (by simpa using hs0)
          subst hus0
          have hargs := args_rel hr.heap hr.evF hc2
          have hrun : (execOp a.eval o).run K.P w = .ok (.enter fid (args.map a.eval)) w := by
            simp [execOp, ho, resolve, invoke, hus, Deferred.ofValue, run_callFunc hfn hb hnm]
          refine wpIn_of (by rw [ho]; intro c hc; cases hc) ?_
          rw [hrun, Oper.uponIn_enter]
          refine ⟨depth_K, callsIn_K ((hfun _ w _ hargs).mono fun e w' he => ?_)⟩
          obtain ⟨u, rfl, hru, hbel⟩ := he
          exact evOps_sound hpan r _ σ _ w' Q h ((hr.at hbel).put hd (avRR_rel (relRR_after hr hfl hru))) hq
        · refine operIn_mono (h σ a w hr) (fun a' w' ⟨σ', st', hr', h⟩ => ?_) (fun e a' w' h => hpan e a' w' h)
          exact evOps_sound hpan r _ σ' _ w' Q h hr' hq
def postA (K : Kx) (Q : Exit → St → Prop) : Exit → Act → World → Prop := fun e a' w' => (∃ σ' st', Q e st' ∧ Rel K σ' st' a' w') ∨ panA K e a' w'
def AW (K : Kx) (c : Code) (Q : Exit → St → Prop) (st : St) : Prop :=
  ∀ σ a w, Rel K σ st a w → c.wpIn K.F 0 K.P (postA K Q) a w
theorem AW.mono {c : Code} {Q Q' : Exit → St → Prop} {st : St} (h : AW K c Q st) (hq : ∀ e st', Q e st' → Q' e st') : AW K c Q' st :=
  fun σ a w hr => wpIn_mono (h σ a w hr) fun e a' w' h => h.imp (fun ⟨σ', st', h1, h2⟩ => ⟨σ', st', hq e st' h1, h2⟩) id
def thenA (next : St → Prop) (Q : Exit → St → Prop) : Exit → St → Prop
  | .normal, st => next st
  | e, st => Q e st
def blockA (id : Nat) (Q : Exit → St → Prop) : Exit → St → Prop
  | .exit id', st => if id' = id then Q .normal st else Q (.exit id') st
  | e, st => Q e st
theorem aw_seq {x y : Code} {Q : Exit → St → Prop} {st : St} (h : AW K x (thenA (AW K y Q) Q) st) : AW K (.seq x y) Q st := by
  intro σ a w hr
  refine wpIn_seq (wpIn_mono (h σ a w hr) fun e a' w' hp => ?_)
  rcases hp with ⟨σ', st', h1, h2⟩ | ⟨ps, rfl, hp⟩
  · cases e <;> first
      | exact h1 σ' a' w' h2
      | exact .inl ⟨σ', st', h1, h2⟩
  · exact .inr ⟨ps, rfl, hp⟩
theorem aw_cond {c : Operand} {x y : Code} {Q : Exit → St → Prop} {st : St} {t : Bool} (hc : evalA (AL.get st.fr) c = some (.one (.p (.v (.bool t))))) (h : AW K (if t then x else y) Q st) : AW K (.cond c x y) Q st := by
  intro σ a w hr
  have : a.eval c = .bool t := by
    have := hr.evF c _ hc
    generalize a.eval c = q at this
    cases this; rfl
  exact wpIn_cond this (h σ a w hr)
theorem aw_block {id : Nat} {c : Code} {Q : Exit → St → Prop} {st : St} (h : AW K c (blockA id Q) st) : AW K (.block id c) Q st := by
  intro σ a w hr
  refine wpIn_block (wpIn_mono (h σ a w hr) fun e a' w' hp => ?_)
  rcases hp with ⟨σ', st', h1, h2⟩ | ⟨ps, rfl, hp⟩
  · cases e with
    | exit id' =>
      simp only [blockA] at h1
      simp only [Exit.inBlock]
      split at h1
      · rename_i he; rw [if_pos he]; exact .inl ⟨σ', st', h1, h2⟩
      · rename_i he; rw [if_neg he]; exact .inl ⟨σ', st', h1, h2⟩
    | _ => exact .inl ⟨σ', st', h1, h2⟩
  · exact .inr ⟨ps, rfl, hp⟩
theorem aw_exit {id : Nat} {Q : Exit → St → Prop} {st : St} (h : Q (.exit id) st) : AW K (.exit id) Q st := fun σ _ _ hr => wpIn_exit (.inl ⟨σ, st, h, hr⟩)
theorem aw_ret {Q : Exit → St → Prop} {st : St} (h : Q .ret st) : AW K .ret Q st := fun σ _ _ hr => wpIn_ret (.inl ⟨σ, st, h, hr⟩)
theorem aw_skip {Q : Exit → St → Prop} {st : St} (h : Q .normal st) : AW K .skip Q st := fun σ _ _ hr => wpIn_skip (.inl ⟨σ, st, h, hr⟩)
theorem aw_label {l : Nat} {Q : Exit → St → Prop} {st : St} (h : Q .normal st) : AW K (.label l) Q st := fun σ _ _ hr => wpIn_label (.inl ⟨σ, st, h, hr⟩)
theorem aw_region {id : Nat} {l : List Oper} {Q : Exit → St → Prop} {st : St} (h : evOps K l.toArray l st (Q .normal)) : AW K (.region id l.toArray false) Q st :=
  fun σ a w hr => wpIn_region_lit (evOps_sound (fun _ _ _ => .inr) l st σ a w (Q .normal) h hr fun σ' st' a' w' h1 h2 => .inl ⟨σ', st', h1, h2⟩)
def Weak (K : Kx) (st st' : St) : Prop := ∀ σ a w, Rel K σ st a w → ∃ σ', Rel K σ' st' a w
theorem aw_weak {c : Code} {Q : Exit → St → Prop} {st st' : St} (hw : Weak K st st') (h : AW K c Q st') : AW K c Q st :=
  fun σ a w hr => let ⟨σ', hr'⟩ := hw σ a w hr; h σ' a w hr'
theorem exists_min (p : Nat → Prop) (h : ∃ n, p n) : ∃ n, p n ∧ ∀ m, p m → n ≤ m := by
  obtain ⟨n, hn⟩ := h
  induction n using Nat.strongRecOn with
  | _ n ih =>
    by_cases hq : ∃ m, m < n ∧ p m
    · obtain ⟨m, hm, hp⟩ := hq; exact ih m hm hp
    · exact ⟨n, hn, fun m hm => by
        rcases Nat.lt_or_ge m n with h | h
        · exact absurd ⟨m, h, hm⟩ hq
        · exact h⟩
theorem aw_loop {ι : Type} {body : Code} {Q : Exit → St → Prop} (S : ι → St) (μ : ι → Nat)
    (h : ∀ i, AW K body (thenA (fun st' => ∃ j, μ j < μ i ∧ Weak K st' (S j)) Q) (S i)) (i : ι) : AW K (.loop body) Q (S i) := by
  intro σ a w hr
  let p : Act → World → Nat → Prop := fun a w n => ∃ i, μ i = n ∧ ∃ σ, Rel K σ (S i) a w
  have hmin : ∀ a w, (∃ n, p a w n) → ∃ n, p a w n ∧ ∀ m, p a w m → n ≤ m := fun a w h => exists_min _ h
  let m : Act → World → Nat := fun a w => @dite Nat (∃ n, p a w n) (Classical.propDecidable _) (fun h => Classical.choose (hmin a w h)) (fun _ => 0)
  have hm : ∀ a w, (∃ n, p a w n) → p a w (m a w) ∧ ∀ k, p a w k → m a w ≤ k := by
    intro a w h
    have e : m a w = Classical.choose (hmin a w h) := by simp only [m]; exact dif_pos h
    rw [e]
    exact Classical.choose_spec (hmin a w h)
  refine wpIn_loop (fun a w => ∃ n, p a w n) m ⟨_, i, rfl, σ, hr⟩ fun a w ⟨n, hn⟩ => ?_
  obtain ⟨⟨j, hj, σ', hr'⟩, _⟩ := hm a w ⟨n, hn⟩
  refine wpIn_mono (h j σ' a w hr') fun e a' w' hp => ?_
  rcases hp with ⟨σ'', st', h1, h2⟩ | ⟨ps, rfl, hp⟩
  · cases e with
    | normal =>
      obtain ⟨k, hk, hw⟩ := h1
      obtain ⟨σ3, hr3⟩ := hw σ'' a' w' h2
      have hp : p a' w' (μ k) := ⟨k, rfl, σ3, hr3⟩
      exact ⟨⟨_, hp⟩, by have := (hm a' w' ⟨_, hp⟩).2 _ hp; omega⟩
    | _ => exact .inl ⟨σ'', st', h1, h2⟩
  · exact .inr ⟨ps, rfl, hp⟩
end Go.Pv
namespace Go.Pv
open Go Go.RowKit Go.Sh
def initFr : Nat → List RV → List (Nat × AV)
  | _, [] => []
  | i, r :: rs => (i, avR r) :: initFr (i + 1) rs
theorem initFr_get : ∀ (rs : List RV) (i t : Nat), AL.get (initFr i rs) t = if i ≤ t ∧ t < i + rs.length then (rs[t - i]?).map avR else none
  | [], i, t => by simp [initFr, AL.get]
  | r :: rs, i, t => by
    simp only [initFr, AL.get, initFr_get rs (i + 1) t, List.length_cons]
    by_cases h : t = i
    · subst h; simp
    · rw [if_neg h]
      by_cases h2 : i + 1 ≤ t ∧ t < i + 1 + rs.length
      · rw [if_pos h2, if_pos (by omega), show t - i = (t - (i + 1)) + 1 by omega, List.getElem?_cons_succ]
      · rw [if_neg h2, if_neg (by omega)]
def res1 (P : Program) (st : St) : ResultVar → Option RV
  | .tmp t => (AL.get st.fr t).bind (rvA true (AL.get st.hp))
  | .cell a ty => (AL.get st.fr a).bind fun av => (loadA P (AL.get st.hp) ty av).bind (rvA true (AL.get st.hp))
def resA (P : Program) (st : St) (rs : List ResultVar) : Option RR :=
  (rs.mapM (res1 P st)).map fun l => match l with | [r] => .one r | l => .tup l
variable {K : Kx}
def resF (tmps : Array Value) : ResultVar → Sem Value
  | .tmp t => pure (tmps.getD t undef)
  | .cell a t => do loadVar t (← asAddr (tmps.getD a undef))
theorem results_eq (fn : Func) (tmps : Array Value) : results fn tmps = (fn.results.mapM (resF tmps) >>= fun vs => pure (if h : vs.size = 1 then vs[0] else .tuple vs)) := by
  unfold results
  have : (fun rv => resF tmps rv) = fun rv => (match rv with | .tmp t => pure (tmps.getD t undef) | .cell a t => do loadVar t (← asAddr (tmps.getD a undef)) : Sem Value) := by
    funext rv; cases rv <;> rfl
  rw [show resF tmps = fun rv => resF tmps rv from rfl, this]
  rfl
theorem res1_run {σ : Nat → Option Value} {st : St} {a : Act} {w : World} (h : Rel K σ st a w) {rv : ResultVar} {r : RV} (hr : res1 K.P st rv = some r) :
    ∃ u, (resF a.tmps rv).run K.P w = .ok u w ∧ RelR ((sit K σ st w).Zc true) w r u := by
  cases rv with
  | tmp t =>
    simp only [res1, Option.bind_eq_some_iff] at hr
    obtain ⟨av, hav, hr⟩ := hr
    exact ⟨_, rfl, rvA_rel h.heap (h.fr t av hav).2 hr⟩
  | cell ad ty =>
    simp only [res1, Option.bind_eq_some_iff] at hr
    obtain ⟨av, hav, v, hv, hr⟩ := hr
    obtain ⟨x, hx, hrx⟩ := loadA_run (P := K.P) h.heap (h.fr ad av hav).2 hv
    have hrow : ∃ row, rowAtA (sit K σ st w).h av = some row := by
      unfold loadA at hv
      simp only [Option.bind_eq_some_iff] at hv
      obtain ⟨row, h1, _⟩ := hv
      exact ⟨row, h1⟩
    obtain ⟨row, hrow⟩ := hrow
    obtain ⟨b, o, hp, _⟩ := rowAtA_rel h.heap (h.fr ad av hav).2 hrow
    refine ⟨x, ?_, rvA_rel h.heap hrx hr⟩
    simp only [resF]
    rw [hp] at hx ⊢
    simp only [Instr.loadAt, Instr.sureAddr, Sem.run_bind, Sem.run_pure, Result.andThen_ok] at hx
    simp only [asAddr, Sem.run_bind, Sem.run_pure, Result.andThen_ok]
    exact hx
theorem results_run {σ : Nat → Option Value} {st : St} {a : Act} {w : World} (h : Rel K σ st a w) {fn : Func} {r : RR} (hr : resA K.P st fn.results.toList = some r) : ∃ u, (results fn a.tmps).run K.P w = .ok u w ∧ RelRR ((sit K σ st w).Zc true) w r u := by
  have key : ∀ (l : List ResultVar) (rs : List RV), l.mapM (res1 K.P st) = some rs → ∃ us : List Value, (l.mapM (resF a.tmps)).run K.P w = .ok us w ∧ RelRs ((sit K σ st w).Zc true) w rs us.toArray := by
    intro l
    induction l with
    | nil => intro rs hrs; cases hrs; exact ⟨[], rfl, rfl, by simp⟩
    | cons rv l ih =>
      intro rs hrs
      simp only [List.mapM_cons, Option.pure_def, Option.bind_eq_bind, Option.bind_eq_some_iff, Option.some.injEq] at hrs
      obtain ⟨r1, h1, rs', h2, rfl⟩ := hrs
      obtain ⟨u, hu, hru⟩ := res1_run h h1
      obtain ⟨us, hus, hs, hrel⟩ := ih rs' h2
      refine ⟨u :: us, ?_, by simpa using hs, fun j r hj => ?_⟩
      · simp only [List.mapM_cons, Sem.run_bind]
        rw [hu]
        simp only [Result.andThen_ok, Sem.run_bind]
        rw [hus]
        rfl
      · cases j with
        | zero => simp at hj; subst hj; exact ⟨u, by simp, hru⟩
        | succ j =>
          obtain ⟨x, hx, hrx⟩ := hrel j r (by simpa using hj)
          exact ⟨x, by simpa using hx, hrx⟩
  unfold resA at hr
  simp only [Option.map_eq_some_iff] at hr
  obtain ⟨rs, hrs, hr⟩ := hr
  obtain ⟨us, hus, hrel⟩ := key _ rs hrs
  have hm : ∀ {w'}, (fn.results.mapM (resF a.tmps)).run K.P w' = (List.toArray <$> fn.results.toList.mapM (resF a.tmps)).run K.P w' := by
    intro w'; rw [Array.mapM_eq_mapM_toList]
  have hlen : us.length = rs.length := by simpa using hrel.1
  rw [results_eq, Sem.run_bind, hm, Sem.run_map, hus]
  simp only [Result.andThen]
  cases rs with
  | nil =>
    cases hr
    have : us = [] := List.eq_nil_of_length_eq_zero (by simpa using hlen)
    subst this
    exact ⟨.tuple #[], rfl, #[], rfl, hrel⟩
  | cons r1 rs =>
    cases rs with
    | nil =>
      cases hr
      obtain ⟨u, rfl⟩ : ∃ u, us = [u] := by
        cases us with
        | nil => simp at hlen
        | cons u us => cases us with
          | nil => exact ⟨u, rfl⟩
          | cons => simp at hlen
      obtain ⟨x, hx, hrx⟩ := hrel.2 0 r1 rfl
      simp at hx; subst hx
      exact ⟨_, rfl, hrx⟩
    | cons r2 rs =>
      cases hr
      refine ⟨.tuple us.toArray, ?_, us.toArray, rfl, hrel⟩
      have hne : ¬ (us.toArray.size = 1) := by intro h1; rw [List.size_toArray, hlen] at h1; simp at h1
      rw [dif_neg hne]
      rfl
theorem Rel.take {σ : Nat → Option Value} {st : St} {a : Act} {w : World} {D : Nat} {r : List Deferred} (h : Rel K σ st a w) (ha : a.defers = collD D :: r) :
    DfrAt w D ∧ Rel K σ st { a with defers := r } (w.putObj D (.deferred none)) := by
  obtain ⟨Ds, h1, h2, h3, h4, h5⟩ := h.df
  cases Ds with
  | nil =>
    rw [h1] at ha
    simp only [List.map_nil, List.nil_append] at ha
    exfalso
    unfold dfL at ha
    split at ha
    · rename_i t _
      simp only [List.cons.injEq] at ha
      have := ha.1
      unfold dfOf collD at this
      split at this <;> cases this
    · cases ha
  | cons D' Ds =>
    rw [h1] at ha
    simp only [List.map_cons, List.cons_append, List.cons.injEq] at ha
    have hD : D' = D := by have := ha.1; simp only [collD, Deferred.mk.injEq, Target.collected.injEq] at this; exact this.1
    subst hD
    obtain ⟨k1, k2, k3⟩ := h3 D' List.mem_cons_self
    refine ⟨k3, ?_⟩
    have hoth : ∀ k, k ≠ D' → (w.putObj D' (.deferred none)).heap[k]? = w.heap[k]? := fun k hk => World.putObj_heap_other hk
    have hcell : ∀ (b c : Nat) (u : Value), w.cell? ⟨b, c, none⟩ = some u → (w.putObj D' (.deferred none)).cell? ⟨b, c, none⟩ = some u := by
      intro b c u hc
      by_cases hb : b = D'
      · subst hb
        unfold DfrAt at k3
        simp [World.cell?, k3] at hc
      · rw [World.cell?_of_block (hoth b hb)]; exact hc
    have hsz : (w.putObj D' (.deferred none)).heap.size = w.heap.size := by simp
    have hE : Ext (sit K σ st w) (sit K σ st (w.putObj D' (.deferred none))) :=
      ⟨fun b c u _ hc => hcell b c u hc, fun _ _ _ h => h, fun _ cs _ e1 e2 => ⟨e2, cs, e1⟩, fun _ _ _ rows sh l e1 e2 => ⟨rows, sh, l, e1, e2, .inl ⟨rfl, rfl, id⟩⟩, fun _ _ _ I _ e1 e2 => ⟨e2, I, e1⟩, fun _ _ r _ e1 e2 => ⟨e2, r, e1⟩, fun _ _ r _ e1 e2 => ⟨e2, r, e1⟩⟩
    have hnD : ∀ id l b, σ id = some l → locBlk l = some b → b ≠ D' := by
      intro id l b e1 e2 e3
      subst e3
      unfold DfrAt at k3
      rcases h.heap.cellsAt (s := sit K σ st w) e1 e2 with ⟨cs, t, fz, hc⟩ | ⟨es, ck, hc⟩ | ⟨r, hc⟩ | ⟨c1, c2, c3, c4, hc⟩
      rotate_left 3
      · have hc' : w.heap[b]? = some (.mapIter c1 c2 c3 c4) := hc
        rw [k3] at hc'; cases hc'
      · have hc' : w.heap[b]? = some (.cells cs t fz) := hc
        rw [k3] at hc'; cases hc'
      · have hc' : w.heap[b]? = some (.map es ck) := hc
        rw [k3] at hc'; cases hc'
      · have hc' : w.heap[b]? = some (.loop r) := hc
        rw [k3] at hc'; cases hc'
    refine ⟨⟨fun id o ho => (h.heap.objs id o ho).ext hE rfl rfl fun l b e1 e2 => hoth b (hnD id l b e1 e2), h.heap.dom, h.heap.inj, fun id l b e1 e2 => ⟨by have := (h.heap.lt id l b e1 e2).1; simp only [sit] at this ⊢; omega, (h.heap.lt id l b e1 e2).2⟩⟩,
      fun t av ht => ⟨(h.fr t av ht).1, hE.relV (h.fr t av ht).2⟩, h.lt, ⟨Ds, ha.2.symm, (List.nodup_cons.1 h2).2, fun D hD => ?_, fun D hD => ?_, fun h => by cases h5 h⟩, h.nt, ?_⟩
    · obtain ⟨m1, m2, m3⟩ := h3 D (List.mem_cons_of_mem _ hD)
      refine ⟨m1, m2, ?_⟩
      have : D ≠ D' := by rintro rfl; exact (List.nodup_cons.1 h2).1 hD
      unfold DfrAt at m3 ⊢
      rw [hoth D this]; exact m3
    · have m3 := h4 D hD
      have : D ≠ D' := by rintro rfl; exact k2 hD
      unfold DfrAt at m3 ⊢
      rw [hoth D this]; exact m3
    · refine ⟨h.frm.os, h.frm.tape, h.frm.output, by rw [hsz]; exact h.frm.size, fun k hk hc => ?_⟩
      rw [hoth k (by omega)]; exact h.frm.block k hk hc
theorem leaves_rests {P : Program} {fn : Func} {R : Ending → World → Prop} {tmps : Array Value} {u : FrameMode} (hu : u ≠ .run) {σ : Nat → Option Value} {st : St} {df : List Deferred} :
    ∀ (Ds : List Nat) (a : Act) (w : World), Rel K σ st a w → a.defers = Ds.map collD ++ df → a.tmps = tmps → (∀ w', Rel K σ st { tmps := tmps, defers := df } w' → LeavesInM Fence.wide 0 P fn tmps R df u w') → LeavesInM Fence.wide 0 P fn tmps R (Ds.map collD ++ df) u w
  | [], a, w, h, ha, ht, hw => by
    have : a = { tmps := tmps, defers := df } := by cases a; simp at ha ht; subst ha ht; rfl
    rw [this] at h
    exact hw w h
  | D :: Ds, a, w, h, ha, ht, hw => by
    obtain ⟨h1, h2⟩ := h.take (D := D) ha
    exact ⟨hu, .inl ⟨D, _, rfl, run_takeDeferred h1, leaves_rests hu Ds _ _ h2 rfl ht hw⟩⟩
def noPan : List PanicEntry → St → Prop := fun _ _ => False
theorem rel_init {P : Program} {Z : Zn} {w : World} {pan : List PanicEntry → St → Prop} {rg : Bool} {args : List RV} {us : Array Value} {nt : Nat} (hus : RelRs Z w args us) (hn : args.length ≤ nt) :
    Rel ⟨P, Z, w, fun _ => False, nt, none, pan, none, [], rg⟩ (fun _ => none) ⟨initFr 0 args, [], 0⟩ { tmps := us ++ Array.replicate (nt - us.size) undef, defers := [] } w := by
  have hsz : us.size = args.length := hus.1
  refine ⟨⟨fun id o h => (by simp [sit, AL.get] at h), fun id l h => (by simp [sit] at h), fun _ _ _ _ _ h => (by simp [sit] at h), fun _ _ _ h => (by simp [sit] at h)⟩, fun t av ht => ?_, fun id o h => (by simp [AL.get] at h), ⟨[], rfl, List.nodup_nil, fun D hD => (by cases hD), fun D hD => (by cases hD), fun _ => rfl⟩, by simp; omega, Frm.refl _ _⟩
  rw [initFr_get] at ht
  split at ht
  · rename_i hc
    simp only [Option.map_eq_some_iff] at ht
    obtain ⟨r, hr, rfl⟩ := ht
    obtain ⟨x, hx, hrx⟩ := hus.2 t r (by simpa using hr)
    have hlt : t < us.size := (Array.getElem?_eq_some_iff.1 hx).1
    refine ⟨by simp; omega, ?_⟩
    rw [Array.getD_eq_getD_getElem?, Array.getElem?_append_left hlt, hx]
    refine avR_rel (hrx.mono fun b c u hz hc => ⟨⟨.inl hz, fun id l h => ?_⟩, hc⟩)
    simp [sit] at h
  · cases ht
theorem rel_below {σ : Nat → Option Value} {st : St} {a : Act} {w' : World} (hr : Rel K σ st a w') (hc : ∀ k, ¬ K.cap k) : Below K.w0.heap.size K.w0 w' := ⟨hr.frm.os, hr.frm.tape, hr.frm.output, hr.frm.size, fun k hk => hr.frm.block k hk (hc k)⟩
theorem calls_of_aw {fid : FuncId} {fn : Func} {c : Code} {us : Array Value} {w : World} {R : Ending → World → Prop} {Q : Exit → St → Prop} {σ : Nat → Option Value} {st : St} (hf : K.P.funcs[fid]? = some fn) (hb : fn.body = some c) (hrd : K.rd = none) (hdf : K.df = none)
    (hr : Rel K σ st { tmps := us ++ Array.replicate (fn.ntmps - us.size) undef, defers := [] } w) (h : AW K c Q st) (hQ : ∀ e st', Q e st' → e = .normal ∨ e = .ret)
    (hend : ∀ e σ' st' a' w', Q e st' → Rel K σ' st' a' w' → ∃ v, (results fn a'.tmps).run K.P w' = .ok v w' ∧ R (.returned v) w') (hpan : ∀ ps σ' st' a' w', K.pan ps st' → Rel K σ' st' a' w' → R (.panicked ps) w') : Calls K.P fid us w R := by
  refine callsIn_wide.1 (callsIn_of_wp_marks (n := 0) hf hb trivial ?_)
  have hF : K.F = Fence.wide := by unfold Kx.F; rw [hrd]; rfl
  have h0 := h σ _ w hr
  rw [hF] at h0
  have hdl : ∀ a : Act, dfL K a = [] := fun a => by unfold dfL; rw [hdf]
  refine wpIn_mono h0 fun e a' w' hp => ?_
  rcases hp with ⟨σ', st', hq, hr'⟩ | ⟨ps, rfl, σ', st', hr', hp⟩
  · obtain ⟨Ds, hds, _⟩ := hr'.df
    rw [hdl] at hds
    have key : LeavesInM Fence.wide 0 K.P fn a'.tmps R a'.defers .returning w' := by
      rw [hds]
      refine leaves_rests (by simp) Ds a' w' hr' hds rfl fun w2 hr2 => ?_
      obtain ⟨v, hv, hR⟩ := hend e σ' st' _ w2 hq hr2
      exact ⟨v, hv, hR⟩
    rcases hQ e st' hq with rfl | rfl
    · exact key
    · exact key
  · obtain ⟨Ds, hds, _⟩ := hr'.df
    rw [hdl] at hds
    show LeavesInM Fence.wide 0 K.P fn a'.tmps R a'.defers (.panicking ps) w'
    rw [hds]
    refine leaves_rests (by simp) Ds a' w' hr' hds rfl fun w2 hr2 => ?_
    exact hpan ps σ' st' _ w2 hp hr2
theorem fun_ok {P : Program} {f : FuncId} {fn : Func} {c : Code} {args : List RV} {res : RR} {nt : Nat} {rs : List ResultVar} (hf : P.funcs[f]? = some fn) (hb : fn.body = some c) (hnt : fn.ntmps = nt) (hrs : fn.results.toList = rs) (hn : args.length ≤ nt)
    (h : ∀ Z w0, AW ⟨P, Z, w0, fun _ => False, nt, none, noPan, none, [], true⟩ c (fun e st => (e = .normal ∨ e = .ret) ∧ resA P st rs = some res) ⟨initFr 0 args, [], 0⟩) : FunOK P f args res := by
  subst hnt hrs
  intro Z w us hus
  refine calls_of_aw (K := ⟨P, Z, w, fun _ => False, fn.ntmps, none, noPan, none, [], true⟩) hf hb rfl rfl (rel_init hus hn) (h Z w) (fun e st' hq => hq.1) (fun e σ' st' a' w' hq hr => ?_) (fun ps σ' st' a' w' hp _ => hp.elim)
  obtain ⟨u, hu, hru⟩ := results_run hr hq.2
  refine ⟨u, hu, u, rfl, hru.mono fun b c x hz hc => ⟨?_, hc⟩, rel_below hr fun _ h => h⟩
  rcases hz with hz | ⟨_, id, l, h1, h2⟩
  · exact hz.1
  · rcases (hr.heap.lt id l b h1 h2).2 with h3 | h3
    · exact .inr h3
    · exact h3.elim
def FunX (P : Program) (f : FuncId) (args : List RV) (v : Value) : Prop :=
  ∀ (Z : Zn) (w : World) (us : Array Value), RelRs Z w args us → Calls P f us w fun e w' => e = .panicked [{ v, recovered := false }] ∧ Below w.heap.size w w'
theorem fun_x {P : Program} {f : FuncId} {fn : Func} {c : Code} {args : List RV} {v : Value} {nt : Nat} (hf : P.funcs[f]? = some fn) (hb : fn.body = some c) (hnt : fn.ntmps = nt) (hn : args.length ≤ nt)
    (h : ∀ Z w0, AW ⟨P, Z, w0, fun _ => False, nt, none, fun ps _ => ps = [{ v, recovered := false }], none, [], true⟩ c (fun _ _ => False) ⟨initFr 0 args, [], 0⟩) : FunX P f args v := by
  subst hnt
  intro Z w us hus
  exact calls_of_aw (K := ⟨P, Z, w, fun _ => False, fn.ntmps, none, fun ps _ => ps = [{ v, recovered := false }], none, [], true⟩) hf hb rfl rfl (rel_init hus hn) (h Z w) (fun e st' hq => hq.elim) (fun e σ' st' a' w' hq hr => hq.elim)
    (fun ps σ' st' a' w' hp hr => ⟨by rw [show ps = _ from hp], rel_below hr fun _ h => h⟩)
end Go.Pv
