/- The board in memory; the walk of day. -/
import Derived.Test.YtojbkpnkcpcioaaStC
import Derived.Test.YtojbkpnkcpcioaaBaseD
set_option linter.all false
namespace Go.Proofs.Ytojbkpnkcpcioaa
open Go.RowKit Go.Sh Go.Sh.Stand
theorem Try.laidOut : laidOutB Try.prog = true := by kernel_rfl
theorem key140 : WideMaps.KeyLaw Try.prog 140 := deep_law_laid Try.laidOut (m := 5) (by omega) (of_decide_eq_true (by kernel_rfl)) (by kernel_rfl) (by kernel_rfl)
theorem cells140 : Try.prog.cellsOf 140 = 3 := by kernel_rfl
theorem cells88 : Try.prog.cellsOf 88 = 3 := by kernel_rfl
theorem cells3 : Try.prog.cellsOf 3 = 1 := by kernel_rfl
theorem types_size : Try.prog.types.size = 170 := by kernel_rfl
theorem key140_of (a b c : Int) (ha : (Lit.int .i64 a).wf = true) (hb : (Lit.int .i64 b).wf = true) (hc : (Lit.int .i64 c).wf = true) : ∃ l, keyOf Try.prog 140 (.agg #[.int .i64 a, .int .i64 b, .int .i64 c]) = some l := by
  have h1 : Try.prog.keyType 140 = true := by kernel_rfl
  have i0 : ∀ d (n : Int), (Lit.int .i64 n).wf = true → Try.prog.keyLits (d + 1) 3 [.int .i64 n] = some [.int .i64 n] := fun d n h => by
    unfold Program.keyLits; simp [Try.underlying3, h]
  have i1 : ∀ d, Try.prog.keyLits (d + 1 + 1) 88 [.int .i64 a, .int .i64 b, .int .i64 c] = some [.int .i64 a, .int .i64 b, .int .i64 c] := fun d => by
    unfold Program.keyLits; simp [Try.underlying88, cells88, cells3, List.range_succ, i0 _ _ ha, i0 _ _ hb, i0 _ _ hc]
  have i2 : ∀ d, Try.prog.keyLits (d + 1 + 1 + 1) 140 [.int .i64 a, .int .i64 b, .int .i64 c] = some [.int .i64 a, .int .i64 b, .int .i64 c] := fun d => by
    unfold Program.keyLits; simp [Try.underlying140, cells140, cells88, i1 d]
  unfold keyOf
  simp only [Try.underlying140, h1, types_size, Value.formed, Value.cells, cells140]
  exact ⟨_, by rw [show (170 + 1 : Nat) = 168 + 1 + 1 + 1 from rfl, i2 168]; rfl⟩

def keyV (t : Shearer) : Value := .agg #[.int .i64 t.1, .int .i64 t.2.1, .int .i64 t.2.2]
/-- A shearer within the limits. -/
def Tok (t : Shearer) : Prop := (1 ≤ t.1 ∧ t.1 ≤ 40) ∧ (1 ≤ t.2.1 ∧ t.2.1 ≤ 40) ∧ (1 ≤ t.2.2 ∧ t.2.2 ≤ 40)
/-- What the walks need of a stand that is valid. -/
structure Fit (s : Stand) : Prop where
  mins : s.mins.length = 3
  minb : ∀ p ∈ s.mins, 1 ≤ p.1 ∧ p.1 ≤ p.2 ∧ p.2 ≤ 40 ∧ p.2 - p.1 ≤ 4
  runs : 1 ≤ s.runs.length ∧ s.runs.length ≤ 4
  runb : ∀ p ∈ s.runs, 0 ≤ p.1 ∧ p.1 < p.2 ∧ p.2 ≤ 600
  sheep : s.sheep.length ≤ 16
  kinds : ∀ k ∈ s.sheep, 0 ≤ k ∧ k ≤ 2
  looks : s.looks.length ≤ 4
  lookb : ∀ l ∈ s.looks, (0 ≤ l.1 ∧ l.1 ≤ 600) ∧ 0 ≤ l.2.1 ∧ l.2.1 ≤ l.2.2 ∧ l.2.2 ≤ 16

/-- A row in no block of X. -/
def Off (X : Nat → Prop) (v : Value) : Prop := ∀ (a : Addr) (n c : Nat), v = .slice (some a) n c → 0 < n → ¬ X a.block
theorem Off.sub {X X' : Nat → Prop} {v : Value} (h : Off X v) (hx : ∀ k, X' k → X k) : Off X' v := fun a n c e hn hk => h a n c e hn (hx _ hk)

/-- A board that lies in the block b, with its map in the block m, and in no block of X. -/
structure Board (w : World) (b m : Nat) (s : Stand) (X : Nat → Prop) : Prop where
  mins : ∀ k, k < 3 → w.cell? ⟨b, k * 2, none⟩ = some (.int .i64 (s.mins.getD k (0, 0)).1) ∧ w.cell? ⟨b, k * 2 + 1, none⟩ = some (.int .i64 (s.mins.getD k (0, 0)).2)
  runs : ∃ v, w.cell? ⟨b, 6, none⟩ = some v ∧ Prs w w.heap.size v s.runs ∧ Off X v
  sheep : ∃ v, w.cell? ⟨b, 7, none⟩ = some v ∧ Ints w w.heap.size v s.sheep ∧ Off X v
  looks : ∃ v, w.cell? ⟨b, 8, none⟩ = some v ∧ Trs w w.heap.size v s.looks ∧ Off X v
  map : w.cell? ⟨b, 9, none⟩ = some (.map (some m))
  kept : MapInv Try.prog 140 w m fun k v => ∃ t, k = keyV t ∧ Prs w w.heap.size v (day s t) ∧ Off X v
  xlt : ∀ k, X k → k < w.heap.size
  xb : ¬ X b
  xm : ¬ X m

theorem Board.mlt {b m : Nat} {s : Stand} {w : World} {X : Nat → Prop} (h : Board w b m s X) : m < w.heap.size := by obtain ⟨es, ck, hb, _⟩ := h.kept; exact (Array.getElem?_eq_some_iff.1 hb).1

theorem Board.later {w w' : World} {b m : Nat} {s : Stand} {X : Nat → Prop} (h : Board w b m s X) (hf : Below w.heap.size w w') : Board w' b m s X := by
  obtain ⟨rv, r1, r2, r3⟩ := h.runs
  obtain ⟨sv, s1, s2, s3⟩ := h.sheep
  obtain ⟨lv, l1, l2, l3⟩ := h.looks
  exact ⟨fun k hk => ⟨cell_old hf (h.mins k hk).1, cell_old hf (h.mins k hk).2⟩, ⟨rv, cell_old hf r1, r2.later hf, r3⟩, ⟨sv, cell_old hf s1, s2.later hf, s3⟩, ⟨lv, cell_old hf l1, l2.later hf, l3⟩, cell_old hf h.map,
    h.kept.imp (hf.block m h.mlt) fun k v ⟨t, h1, h2, h3⟩ => ⟨t, h1, h2.later hf, h3⟩, fun k hk => Nat.lt_of_lt_of_le (h.xlt k hk) hf.size, h.xb, h.xm⟩

/-- One more entry of the map. -/
theorem Board.put {w w' : World} {b m : Nat} {s : Stand} {X : Nat → Prop} (h : Board w b m s X) (hf : Frm (fun k => k = m) w w') (hk : MapInv Try.prog 140 w' m fun k v => ∃ t, k = keyV t ∧ Prs w' w'.heap.size v (day s t) ∧ Off X v) : Board w' b m s X := by
  obtain ⟨rv, r1, r2, r3⟩ := h.runs
  obtain ⟨sv, s1, s2, s3⟩ := h.sheep
  obtain ⟨lv, l1, l2, l3⟩ := h.looks
  obtain ⟨es, ck, hb, _⟩ := h.kept
  have hc : ∀ {a : Addr} {u : Value}, w.cell? a = some u → w'.cell? a = some u := fun hc => hf.cell hc (ne_of_cell_map hc hb)
  exact ⟨fun k hk => ⟨hc (h.mins k hk).1, hc (h.mins k hk).2⟩, ⟨rv, hc r1, r2.frmM hb hf, r3⟩, ⟨sv, hc s1, s2.frmM hb hf, s3⟩, ⟨lv, hc l1, l2.frmM hb hf, l3⟩, hc h.map, hk, fun k hk => Nat.lt_of_lt_of_le (h.xlt k hk) hf.size, h.xb, h.xm⟩

theorem Off.frm {α : Type} {enc : α → List Value} {size : Nat} {w w' : World} {v : Value} {l : List α} {X S : Nat → Prop} (ho : Off X v) (h : RowsAt enc size w w.heap.size v l) (hf : Frm S w w') (hs : ∀ k, S k → X k) : RowsAt enc size w' w'.heap.size v l := by
  obtain ⟨ao, cap, rfl, hm, h⟩ := h
  refine ⟨ao, cap, rfl, hm, fun hl => ?_⟩
  obtain ⟨b', off, rfl, hb, hx⟩ := h hl
  exact ⟨b', off, rfl, Nat.lt_of_lt_of_le hb hf.size, fun i x hi j u hu => hf.cell (hx i x hi j u hu) fun hk => ho _ _ _ rfl (List.length_pos_iff.2 hl) (hs _ hk)⟩

/-- Blocks of X are turned. -/
theorem Board.turn {w w' : World} {b m : Nat} {s : Stand} {X S : Nat → Prop} (h : Board w b m s X) (hf : Frm S w w') (hs : ∀ k, S k → X k) : Board w' b m s X := by
  obtain ⟨rv, r1, r2, r3⟩ := h.runs
  obtain ⟨sv, s1, s2, s3⟩ := h.sheep
  obtain ⟨lv, l1, l2, l3⟩ := h.looks
  have nb : ¬ S b := fun k => h.xb (hs _ k)
  exact ⟨fun k hk => ⟨hf.cell (h.mins k hk).1 nb, hf.cell (h.mins k hk).2 nb⟩, ⟨rv, hf.cell r1 nb, r3.frm r2 hf hs, r3⟩, ⟨sv, hf.cell s1 nb, s3.frm s2 hf hs, s3⟩, ⟨lv, hf.cell l1 nb, l3.frm l2 hf hs, l3⟩, hf.cell h.map nb,
    h.kept.imp (hf.block m h.mlt fun k => h.xm (hs _ k)) fun k v ⟨t, h1, h2, h3⟩ => ⟨t, h1, h3.frm h2 hf hs, h3⟩, fun k hk => Nat.lt_of_lt_of_le (h.xlt k hk) hf.size, h.xb, h.xm⟩
theorem Board.sub {w : World} {b m : Nat} {s : Stand} {X X' : Nat → Prop} (h : Board w b m s X) (hs : ∀ k, X' k → X k) : Board w b m s X' := by
  obtain ⟨rv, r1, r2, r3⟩ := h.runs
  obtain ⟨sv, s1, s2, s3⟩ := h.sheep
  obtain ⟨lv, l1, l2, l3⟩ := h.looks
  exact ⟨h.mins, ⟨rv, r1, r2, r3.sub hs⟩, ⟨sv, s1, s2, s3.sub hs⟩, ⟨lv, l1, l2, l3.sub hs⟩, h.map, h.kept.imp rfl fun k v ⟨t, h1, h2, h3⟩ => ⟨t, h1, h2, h3.sub hs⟩, fun k hk => h.xlt k (hs k hk), fun k => h.xb (hs _ k), fun k => h.xm (hs _ k)⟩
/-- The same row, for another set that is no more than X within the blocks that are there. -/
theorem Off.fresh {α : Type} {enc : α → List Value} {size : Nat} {w : World} {v : Value} {l : List α} {X X' : Nat → Prop} (ho : Off X v) (h : RowsAt enc size w w.heap.size v l) (hx : ∀ k, X' k → X k ∨ w.heap.size ≤ k) : Off X' v := by
  obtain ⟨ao, cap, rfl, hm, h⟩ := h
  intro a n c e hn hk
  cases e
  obtain ⟨b', off, hb', hb, _⟩ := h (List.length_pos_iff.1 hn)
  cases hb'
  rcases hx _ hk with hk | hk
  · exact ho _ _ _ rfl hn hk
  · simp only at hk; omega
theorem Board.grow {w w' : World} {b m : Nat} {s : Stand} {X X' : Nat → Prop} (h : Board w b m s X) (hf : Below w.heap.size w w') (hx : ∀ k, X' k → X k ∨ w.heap.size ≤ k) (hl : ∀ k, X' k → k < w'.heap.size) : Board w' b m s X' := by
  obtain ⟨rv, r1, r2, r3⟩ := h.runs
  obtain ⟨sv, s1, s2, s3⟩ := h.sheep
  obtain ⟨lv, l1, l2, l3⟩ := h.looks
  refine ⟨fun k hk => ⟨cell_old hf (h.mins k hk).1, cell_old hf (h.mins k hk).2⟩, ⟨rv, cell_old hf r1, r2.later hf, r3.fresh r2 hx⟩, ⟨sv, cell_old hf s1, s2.later hf, s3.fresh s2 hx⟩, ⟨lv, cell_old hf l1, l2.later hf, l3.fresh l2 hx⟩, cell_old hf h.map,
    h.kept.imp (hf.block m h.mlt) fun k v ⟨t, h1, h2, h3⟩ => ⟨t, h1, h2.later hf, h3.fresh h2 hx⟩, hl, fun k => ?_, fun k => ?_⟩
  · have := World.block_lt_of_cell? _ _ r1
    rcases hx _ k with k | k
    · exact h.xb k
    · simp only at this; omega
  · have := h.mlt
    rcases hx _ k with k | k
    · exact h.xm k
    · omega

/-- Blocks of X are turned, and blocks that were not yet there come into the set. -/
theorem Board.turnGrow {w w' : World} {b m : Nat} {s : Stand} {X X' S : Nat → Prop} (h : Board w b m s X) (hf : Frm S w w') (hs : ∀ k, S k → X k) (hx : ∀ k, X' k → X k ∨ w.heap.size ≤ k) (hl : ∀ k, X' k → k < w'.heap.size) : Board w' b m s X' := by
  obtain ⟨rv, r1, r2, r3⟩ := h.runs
  obtain ⟨sv, s1, s2, s3⟩ := h.sheep
  obtain ⟨lv, l1, l2, l3⟩ := h.looks
  have nb : ¬ S b := fun k => h.xb (hs _ k)
  refine ⟨fun k hk => ⟨hf.cell (h.mins k hk).1 nb, hf.cell (h.mins k hk).2 nb⟩, ⟨rv, hf.cell r1 nb, r3.frm r2 hf hs, r3.fresh r2 hx⟩, ⟨sv, hf.cell s1 nb, s3.frm s2 hf hs, s3.fresh s2 hx⟩, ⟨lv, hf.cell l1 nb, l3.frm l2 hf hs, l3.fresh l2 hx⟩, hf.cell h.map nb,
    h.kept.imp (hf.block m h.mlt fun k => h.xm (hs _ k)) fun k v ⟨t, h1, h2, h3⟩ => ⟨t, h1, h3.frm h2 hf hs, h3.fresh h2 hx⟩, hl, fun k => ?_, fun k => ?_⟩
  · have := World.block_lt_of_cell? _ _ r1
    rcases hx _ k with k | k
    · exact h.xb k
    · simp only at this; omega
  · have := h.mlt
    rcases hx _ k with k | k
    · exact h.xm k
    · omega

/-- What a call on the board comes to: only the map has turned, and the board stands. -/
structure OnBoard (b m : Nat) (s : Stand) (X : Nat → Prop) (w w' : World) : Prop where
  frm : Frm (fun k => k = m) w w'
  board : Board w' b m s X

def DayPost (b m : Nat) (s : Stand) (X : Nat → Prop) (t : Shearer) (w : World) (e : Ending) (w' : World) : Prop := ∃ v, e = .returned v ∧ Prs w' w'.heap.size v (day s t) ∧ OnBoard b m s X w w'

theorem Tok.wf {t : Shearer} (h : Tok t) : (Lit.int .i64 t.1).wf = true ∧ (Lit.int .i64 t.2.1).wf = true ∧ (Lit.int .i64 t.2.2).wf = true := by
  obtain ⟨h1, h2, h3⟩ := h
  exact ⟨WalkArith.wf_i64 (by omega), WalkArith.wf_i64 (by omega), WalkArith.wf_i64 (by omega)⟩

theorem zero124 (w : World) : (zeroValue 124).run Try.prog w = .ok (.slice none 0 0) w := by kernel_rfl

end Go.Proofs.Ytojbkpnkcpcioaa
