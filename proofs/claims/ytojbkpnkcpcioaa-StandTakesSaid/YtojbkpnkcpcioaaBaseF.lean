/- A range over a function whose iterator writes memory of its own and reads its own boxes behind a round: the contract names, state by state, which blocks are the caller's (T); S: blocks that the calls of both may turn; G: what stands between any two calls. -/
import Derived.Test.YtojbkpnkcpcioaaBaseD
import Derived.RangeFuncNested
import Derived.RangeFuncBound
import Derived.RangeFuncCalls
import Derived.RangeFuncLeaves
import Derived.Shelf.Abstract
import Derived.Shelf.RegionOpen
import Derived.OwnWalkIn
import Derived.TacticsInMore
import Derived.LoopNIn
import Derived.LoopIn
set_option linter.all false
namespace Go.Sh
open Go Go.RowKit

/-- One step of the caller's, from the set T of its blocks to the set T'. -/
structure Rnd (S T T' : Nat → Prop) (A B : World) : Prop where
  frm : Frm (fun k => S k ∨ T k) A B
  grow : ∀ k, T' k → T k ∨ A.heap.size ≤ k
  keep : ∀ k, T k → T' k
  lt : ∀ k, T' k → k < B.heap.size

theorem Rnd.trans {S T T' T'' : Nat → Prop} {A B C : World} (h : Rnd S T T' A B) (k : Rnd S T' T'' B C) : Rnd S T T'' A C :=
  ⟨⟨k.frm.os.trans h.frm.os, k.frm.tape.trans h.frm.tape, k.frm.output.trans h.frm.output, Nat.le_trans h.frm.size k.frm.size, fun i hi hs => by
      refine (k.frm.block i (Nat.lt_of_lt_of_le hi h.frm.size) fun hq => ?_).trans (h.frm.block i hi hs)
      rcases hq with hq | hq
      · exact hs (.inl hq)
      · rcases h.grow i hq with ht | hge
        · exact hs (.inr ht)
        · omega⟩,
    fun i hi => by
      rcases k.grow i hi with ht | hge
      · exact h.grow i ht
      · exact .inr (Nat.le_trans h.frm.size hge),
    fun i hi => k.keep i (h.keep i hi), k.lt⟩
theorem Rnd.refl {S T : Nat → Prop} {A : World} (h : ∀ k, T k → k < A.heap.size) : Rnd S T T A A := ⟨Frm.refl _ _, fun _ h => .inl h, fun _ h => h, h⟩
/-- A step that turns S alone. -/
theorem Rnd.of_frm {S T : Nat → Prop} {A B : World} (h : Frm S A B) (ht : ∀ k, T k → k < A.heap.size) : Rnd S T T A B :=
  ⟨h.mono fun _ _ hs => .inl hs, fun _ h => .inl h, fun _ h => h, fun k hk => Nat.lt_of_lt_of_le (ht k hk) h.size⟩
/-- A block of the iterator's own lies on through a round. -/
theorem Rnd.block {S T T' : Nat → Prop} {A B : World} (h : Rnd S T T' A B) {k : Nat} (hk : k < A.heap.size) (hs : ¬ S k) (ht : ¬ T k) : B.heap[k]? = A.heap[k]? ∧ ¬ T' k :=
  ⟨h.frm.block k hk (fun hq => hq.elim hs ht), fun h' => (h.grow k h').elim ht (fun hge => by omega)⟩

theorem Rnd.pre {S T T' : Nat → Prop} {A B C : World} (h : Rnd S T T' B C) (hb : Below A.heap.size A B) : Rnd S T T' A C :=
  ⟨(Frm.of_below hb).trans h.frm, fun k hk => (h.grow k hk).elim .inl fun h => .inr (Nat.le_trans hb.size h), h.keep, h.lt⟩

/-- What the kit's two laws ask of G. -/
structure GoodW (S : Nat → Prop) (G : (Nat → Prop) → World → Prop) : Prop where
  below : ∀ {T A B}, G T A → Below A.heap.size A B → G T B
  put : ∀ {T A l o} (o' : Obj), G T A → A.heap[l]? = some o → o.isCells = false → ¬ S l → G T (A.putObj l o')
  add : ∀ {T A l o}, G T A → A.heap[l]? = some o → o.isCells = false → ¬ S l → G (fun k => T k ∨ k = l) A
  sub : ∀ {T T' A}, G T A → (∀ k, T' k → T k) → G T' A

/-- Rows abide the turn of a block that holds no cells. -/
theorem RowsAt.putObj {α : Type} {enc : α → List Value} {size : Nat} {w : World} {v : Value} {xs : List α} {l : Nat} {o : Obj} (o' : Obj) (h : RowsAt enc size w w.heap.size v xs) (hl : w.heap[l]? = some o) (ho : o.isCells = false) : RowsAt enc size (w.putObj l o') (w.putObj l o').heap.size v xs :=
  h.of_cells (by simp) fun b' off' u' _ hc => by
    rw [World.cell?_of_block (World.putObj_heap_other ?_)]; exact hc
    rintro rfl
    obtain ⟨o2, h2, h3⟩ := cells_of_cell hc
    simp only at h2
    rw [hl] at h2; cases h2; rw [ho] at h3; cases h3
theorem cell_putObj {w : World} {a : Addr} {v : Value} {l : Nat} {o : Obj} (o' : Obj) (h : w.cell? a = some v) (hl : w.heap[l]? = some o) (ho : o.isCells = false) : (w.putObj l o').cell? a = some v := by
  rw [World.cell?_of_block (World.putObj_heap_other ?_)]; exact h
  rintro rfl
  obtain ⟨o2, h2, h3⟩ := cells_of_cell h
  rw [hl] at h2; cases h2; rw [ho] at h3; cases h3

/-- The caller's word abides what the iterator does: S, and blocks from n₀ on that are not the caller's. -/
def Abd {β : Type} (S : Nat → Prop) (G : (Nat → Prop) → World → Prop) (n₀ : Nat) (J : (Nat → Prop) → β → World → Prop) : Prop :=
  ∀ T s A B, J T s A → G T A → G T B → (∀ k, T k → k < A.heap.size) → Frm (fun k => S k ∨ (n₀ ≤ k ∧ ¬ T k)) A B → J T s B

/-- THE CONTRACT OF AN ITERATOR VALUE: it gives xs; U: the blocks of its captured variables, that the caller leaves alone. -/
def Seq {α : Type} (P : Program) (S : Nat → Prop) (G : (Nat → Prop) → World → Prop) (U : Nat → Prop) (g : Nat) (lb : Array Value) (encs : α → Array Value) (xs : List α) (w : World) : Prop :=
  ∀ (l : Nat) (T : Nat → Prop) (J Jx : (Nat → Prop) → List α → World → Prop) (W : World), Below w.heap.size w W → G T W → (∀ k, T k → k < W.heap.size) → (∀ k, U k → ¬ T k) →
    Abd S G W.heap.size J → Abd S G W.heap.size Jx →
    (∀ T pre x A, J T pre A → G T A → (∀ k, T k → k < A.heap.size) → pre ++ [x] <+: xs → YieldAt Fence.wide 0 P l (encs x) A fun e B =>
      ∃ T', Rnd S T T' A B ∧ G T' B ∧ ((e = .returned (.bool true) ∧ J T' (pre ++ [x]) B) ∨ (e = .returned (.bool false) ∧ Jx T' (pre ++ [x]) B))) →
    J T [] W →
    CallsIn Fence.wide 0 P g (#[.func (.yield l) #[] #[]] ++ lb) W fun e B => (∃ v, e = .returned v) ∧ ∃ T', Rnd S T T' W B ∧ G T' B ∧ (J T' xs B ∨ ∃ pre, pre <+: xs ∧ Jx T' pre B)

/-- How the body of a round may be left. -/
def rngPost {α : Type} (S : Nat → Prop) (G : (Nat → Prop) → World → Prop) (I : (Nat → Prop) → List α → World → Prop) (Ix : Code → (Nat → Prop) → List α → World → Prop) (xs : List α) (T : Nat → Prop) (W : World) : Exit → Act → World → Prop
  | .normal, _, B => ∃ T', Rnd S T T' W B ∧ G T' B ∧ I T' xs B
  | .ret, _, B => ∃ T', Rnd S T T' W B ∧ G T' B ∧ Ix .ret T' xs B
  | .exit id, _, B => ∃ T', Rnd S T T' W B ∧ G T' B ∧ Ix (.exit id) T' xs B
  | .goto t, _, B => ∃ T', Rnd S T T' W B ∧ G T' B ∧ Ix (.goto t) T' xs B
  | .panic _, _, _ => False
  | .outgrown, _, _ => False

variable {P : Program}

theorem frm_put {S : Nat → Prop} {A : World} {l : Nat} (o : Obj) (h : S l) : Frm S A (A.putObj l o) := Frm.putObj (Frm.refl _ _) (.inl h) o

/-- THE STATEMENT 'for x := range seq { .. }', in a function's frame. -/
theorem wpIn_range {α : Type} {g : Operand} {ps : Array Tmp} {assign body : Code} {Q : Exit → Act → World → Prop} {a : Act} {w : World}
    {gf : Nat} {lb : Array Value} (hg : a.eval g = .func (.func gf) #[] lb) (eg : ∀ args w, (callFunc gf args).run P w = .ok (.enter gf args) w)
    {S : Nat → Prop} {G : (Nat → Prop) → World → Prop} (hG : GoodW S G) {U : Nat → Prop} {encs : α → Array Value} {xs : List α} {w0 : World} (hseq : Seq P S G U gf lb encs xs w0) (hb0 : Below w0.heap.size w0 w) (hps : ∀ x, (encs x).size = ps.size)
    (hS : ∀ k, S k → k < w.heap.size) (T0 : Nat → Prop) (hT0 : ∀ k, T0 k → k < w.heap.size) (hU : ∀ k, U k → ¬ T0 k ∧ k < w.heap.size) (hgw : G T0 w)
    (I : (Nat → Prop) → List α → World → Prop) (Ix : Code → (Nat → Prop) → List α → World → Prop) (hI : Abd S G w.heap.size I) (hIx : ∀ c, Abd S G w.heap.size (Ix c)) (h0 : I T0 [] w)
    (Ax : α → Act → World → Prop) (hAx : ∀ x a' A l o o', Ax x a' A → A.heap[l]? = some o → o.isCells = false → Ax x a' (A.putObj l o'))
    (hassign : ∀ (l : Nat) (T : Nat → Prop) (pre : List α) (x : α) (W : World) (K : Act → World → Prop), I T pre W → G T W → (∀ k, T k → k < W.heap.size) → w.heap.size ≤ W.heap.size → (∀ a' W', Below W.heap.size W W' → Ax x a' W' → K a' W') →
      assign.wpIn (Fence.wide.inRound l) 0 P (Exit.then K (fun _ _ _ => False)) { tmps := (ps.zip (encs x)).foldl (fun t (p, v) => t.setIfInBounds p v) a.tmps, defers := [] } W)
    (hbody : ∀ (l : Nat) (T : Nat → Prop) (pre : List α) (x : α) (a' : Act) (W : World), I T pre W → G T W → (∀ k, T k → k < W.heap.size) → w.heap.size ≤ W.heap.size → Rnd S T0 T w W → Ax x a' W → pre ++ [x] <+: xs → body.wpIn (Fence.wide.inRound l) 0 P (rngPost S G I Ix (pre ++ [x]) T W) a' W)
    (hdone : ∀ (D : Nat) (T : Nat → Prop) (W : World), w.heap.size ≤ D → ¬ T D → Rnd S T0 T w W → G T W → I T xs W → W.heap[D]? = some (.deferred (some [])) → Q .normal { a with defers := { target := .collected D, args := #[] } :: a.defers } W)
    (hstop : ∀ (D : Nat) (c : Code) (T : Nat → Prop) (pre : List α) (W : World), w.heap.size ≤ D → ¬ T D → Rnd S T0 T w W → G T W → pre <+: xs → Ix c T pre W → W.heap[D]? = some (.deferred (some [])) → c.wpIn Fence.wide 0 P Q { a with defers := { target := .collected D, args := #[] } :: a.defers } W) :
    (Code.rangeFunc g ps assign body).wpIn Fence.wide 0 P Q a w := by
  refine wpIn_rangeFunc ?_
  intro fn hfn
  obtain ⟨rec, hrec⟩ : ∃ rec : LoopState → Option Code → Loop, rec = fun st pe => { state := st, pending := pe, fn, tmps := a.tmps, params := ps, assign, body, defers := w.heap.size } := ⟨_, rfl⟩
  obtain ⟨W1, hW1⟩ : ∃ W1, (w.alloc (.deferred (some []))).alloc (.loop (rec .ready none)) = W1 := ⟨_, rfl⟩
  have hL1 : W1.heap[w.heap.size + 1]? = some (.loop (rec .ready none)) := by
    rw [← hW1]; have := World.alloc_heap_new (w.alloc (.deferred (some []))) (.loop (rec .ready none)); rwa [World.size_alloc] at this
  have hK1 : W1.heap[w.heap.size]? = some (.deferred (some [])) := by
    rw [← hW1]; exact (Below.heap_alloc _ _ _ (by simp)).trans (World.alloc_heap_new w _)
  have hbw : Below w.heap.size w W1 := by rw [← hW1]; exact ((Below.refl _ w).alloc (Nat.le_refl _) _).alloc (by simp) _
  have hs1 : W1.heap.size = w.heap.size + 2 := by rw [← hW1]; simp
  have hg1 : G T0 W1 := hG.below hgw hbw
  have hI1 : I T0 [] W1 := hI _ _ _ _ h0 hgw hg1 hT0 (.of_below hbw)
  refine ⟨w.heap.size + 1, [{ target := .collected w.heap.size, args := #[] }], W1, { target := .fn (.func gf) lb, args := #[.func (.yield (w.heap.size + 1)) #[] #[]] }, W1, gf,
    #[.func (.yield (w.heap.size + 1)) #[] #[]] ++ lb, W1, ?_, ?_, ?_, ?_, ?_, ?_⟩
  · rw [← hW1, hrec]; exact run_enterLoop_outer _ _ _ _ _
  · simp only [resolve, hg]
    simp [go_sem]
  · intro f' _; trivial
  · simp [invoke, go_sem, eg]
  · intro h; cases h
  · -- the set of the caller's blocks, with the record
    refine (hseq (w.heap.size + 1) (fun k => T0 k ∨ k = w.heap.size + 1)
      (fun T pre W => ∃ T', (T = fun k => T' k ∨ k = w.heap.size + 1) ∧ I T' pre W ∧ Rnd S T0 T' w W ∧ ¬ T' w.heap.size ∧ ¬ T' (w.heap.size + 1) ∧ W.heap[w.heap.size + 1]? = some (.loop (rec .ready none)) ∧ W.heap[w.heap.size]? = some (.deferred (some [])))
      (fun T pre W => ∃ c T', (T = fun k => T' k ∨ k = w.heap.size + 1) ∧ Ix c T' pre W ∧ Rnd S T0 T' w W ∧ ¬ T' w.heap.size ∧ ¬ T' (w.heap.size + 1) ∧ W.heap[w.heap.size + 1]? = some (.loop (rec .done (some c))) ∧ W.heap[w.heap.size]? = some (.deferred (some [])))
      W1 (hb0.trans (hbw.mono hb0.size)) (hG.add hg1 hL1 rfl (fun h => by have := hS _ h; omega)) ?_ ?_ ?_ ?_ ?_ ?_).mono ?_
    · rintro k (hk | rfl)
      · have := hT0 k hk; omega
      · omega
    · rintro k hk (ht | rfl)
      · exact (hU k hk).1 ht
      · have := (hU _ hk).2; omega
    · rintro T pre A B ⟨T', rfl, hi, hr, hd, hl, hL, hK⟩ hgA hgB hlt hf
      have hf' : Frm (fun k => S k ∨ (w.heap.size ≤ k ∧ ¬ T' k)) A B := hf.mono fun k _ hk => hk.elim .inl fun h => .inr ⟨by have := h.1; omega, fun h' => h.2 (.inl h')⟩
      refine ⟨T', rfl, hI _ _ _ _ hi (hG.sub hgA fun _ => .inl) (hG.sub hgB fun _ => .inl) (fun k hk => hlt k (.inl hk)) hf', ?_, hd, hl, ?_, ?_⟩
      · refine ⟨⟨hf.os.trans hr.frm.os, hf.tape.trans hr.frm.tape, hf.output.trans hr.frm.output, Nat.le_trans hr.frm.size hf.size, fun k hk hs => ?_⟩, hr.grow, hr.keep, fun k hk => Nat.lt_of_lt_of_le (hr.lt k hk) hf.size⟩
        refine (hf.block k (Nat.lt_of_lt_of_le hk hr.frm.size) fun hq => ?_).trans (hr.frm.block k hk hs)
        rcases hq with hq | hq
        · exact hs (.inl hq)
        · have := hq.1; omega
      · refine (hf.block _ (Array.getElem?_eq_some_iff.1 hL).1 fun hq => ?_).trans hL
        rcases hq with hq | hq
        · have := hS _ hq; omega
        · exact hq.2 (.inr rfl)
      · refine (hf.block _ (Array.getElem?_eq_some_iff.1 hK).1 fun hq => ?_).trans hK
        rcases hq with hq | hq
        · have := hS _ hq; omega
        · have := hq.1; omega
    · rintro T pre A B ⟨c, T', rfl, hi, hr, hd, hl, hL, hK⟩ hgA hgB hlt hf
      have hf' : Frm (fun k => S k ∨ (w.heap.size ≤ k ∧ ¬ T' k)) A B := hf.mono fun k _ hk => hk.elim .inl fun h => .inr ⟨by have := h.1; omega, fun h' => h.2 (.inl h')⟩
      refine ⟨c, T', rfl, hIx c _ _ _ _ hi (hG.sub hgA fun _ => .inl) (hG.sub hgB fun _ => .inl) (fun k hk => hlt k (.inl hk)) hf', ?_, hd, hl, ?_, ?_⟩
      · refine ⟨⟨hf.os.trans hr.frm.os, hf.tape.trans hr.frm.tape, hf.output.trans hr.frm.output, Nat.le_trans hr.frm.size hf.size, fun k hk hs => ?_⟩, hr.grow, hr.keep, fun k hk => Nat.lt_of_lt_of_le (hr.lt k hk) hf.size⟩
        refine (hf.block k (Nat.lt_of_lt_of_le hk hr.frm.size) fun hq => ?_).trans (hr.frm.block k hk hs)
        rcases hq with hq | hq
        · exact hs (.inl hq)
        · have := hq.1; omega
      · refine (hf.block _ (Array.getElem?_eq_some_iff.1 hL).1 fun hq => ?_).trans hL
        rcases hq with hq | hq
        · have := hS _ hq; omega
        · exact hq.2 (.inr rfl)
      · refine (hf.block _ (Array.getElem?_eq_some_iff.1 hK).1 fun hq => ?_).trans hK
        rcases hq with hq | hq
        · have := hS _ hq; omega
        · have := hq.1; omega
    · -- ONE ROUND
      rintro T pre x W ⟨T', rfl, hi, hrn, hd, hnl, hl, hk⟩ hgW0 hlt hpre
      have hgW : G T' W := hG.sub hgW0 fun _ => .inl
      have hTlt : ∀ k, T' k → k < W.heap.size := fun k hk => hlt k (.inl hk)
      have hsW : w.heap.size ≤ W.heap.size := hrn.frm.size
      have hy := run_yield (P := P) (args := encs x) hl (by rw [hrec]; exact hps x)
      rw [hrec] at hy
      refine ⟨fn, _, assign, body, hy, roundIn_of_wpIn hfn (hassign _ T' pre x W _ hi hgW hTlt hsW ?_)⟩
      clear hy
      intro a' Wa hba hax
      have hla : Wa.heap[w.heap.size + 1]? = some (.loop (rec .ready none)) := (hba.block _ (Array.getElem?_eq_some_iff.1 hl).1).trans hl
      have hka : Wa.heap[w.heap.size]? = some (.deferred (some [])) := (hba.block _ (Array.getElem?_eq_some_iff.1 hk).1).trans hk
      refine ⟨_, run_beginRound hla (by rw [hrec]), ?_⟩
      obtain ⟨Wb, hWb⟩ : ∃ Wb, Wa.putObj (w.heap.size + 1) (.loop { rec .ready none with state := .busy }) = Wb := ⟨_, rfl⟩
      have hnS : ¬ S (w.heap.size + 1) := fun h => by have := hS _ h; omega
      have hnSD : ¬ S w.heap.size := fun h => by have := hS _ h; omega
      have hga : G T' Wa := hG.below hgW hba
      have hgb : G T' Wb := by rw [← hWb]; exact hG.put _ hga hla rfl hnS
      have hlb : Wb.heap[w.heap.size + 1]? = some (.loop { rec .ready none with state := .busy }) := by rw [← hWb]; exact World.putObj_heap_same (Array.getElem?_eq_some_iff.1 hla).1
      have hkb : Wb.heap[w.heap.size]? = some (.deferred (some [])) := by rw [← hWb]; exact (World.putObj_heap_other (by omega)).trans hka
      have hfab : Frm (fun k => S k ∨ (w.heap.size ≤ k ∧ ¬ T' k)) W Wb := by
        rw [← hWb]; exact (Frm.of_below hba).putObj (.inl (.inr ⟨by omega, hnl⟩)) _
      have hib : I T' pre Wb := hI _ _ _ _ hi hgW hgb hTlt hfab
      have haxb : Ax x a' Wb := by rw [← hWb]; exact hAx _ _ _ _ _ _ hax hla rfl
      have hsb : W.heap.size ≤ Wb.heap.size := hfab.size
      have hfwb : Frm (fun k => S k ∨ T0 k) w Wb := by
        rw [← hWb]; exact (hrn.frm.trans (.of_below hba)).putObj (.inr (by omega)) _
      rw [hWb]
      refine wpIn_mono (hbody _ T' pre x a' Wb hib hgb (fun k hk => Nat.lt_of_lt_of_le (hTlt k hk) hsb) (Nat.le_trans hsW hsb) ⟨hfwb, hrn.grow, hrn.keep, fun k hk => Nat.lt_of_lt_of_le (hTlt k hk) hsb⟩ haxb hpre) ?_
      -- from the body's end to yield's
      have fin : ∀ (jump : Option Code) (T2 : Nat → Prop) (W3 : World), Rnd S T' T2 Wb W3 → G T2 W3 →
          (Instr.endRound (w.heap.size + 1) jump).run P W3 = .ok (.bool jump.isNone) (W3.putObj (w.heap.size + 1) (.loop (rec (if jump.isNone then .ready else .done) jump))) ∧
          Rnd S (fun k => T' k ∨ k = w.heap.size + 1) (fun k => T2 k ∨ k = w.heap.size + 1) W (W3.putObj (w.heap.size + 1) (.loop (rec (if jump.isNone then .ready else .done) jump))) ∧
          (G T2 (W3.putObj (w.heap.size + 1) (.loop (rec (if jump.isNone then .ready else .done) jump))) ∧ G (fun k => T2 k ∨ k = w.heap.size + 1) (W3.putObj (w.heap.size + 1) (.loop (rec (if jump.isNone then .ready else .done) jump)))) ∧
          Rnd S T0 T2 w (W3.putObj (w.heap.size + 1) (.loop (rec (if jump.isNone then .ready else .done) jump))) ∧
          Frm (fun k => S k ∨ (w.heap.size ≤ k ∧ ¬ T2 k)) W3 (W3.putObj (w.heap.size + 1) (.loop (rec (if jump.isNone then .ready else .done) jump))) ∧
          ¬ T2 w.heap.size ∧ ¬ T2 (w.heap.size + 1) ∧
          (W3.putObj (w.heap.size + 1) (.loop (rec (if jump.isNone then .ready else .done) jump))).heap[w.heap.size + 1]? = some (.loop (rec (if jump.isNone then .ready else .done) jump)) ∧
          (W3.putObj (w.heap.size + 1) (.loop (rec (if jump.isNone then .ready else .done) jump))).heap[w.heap.size]? = some (.deferred (some [])) := fun jump T2 W3 hr3 hg3 => by
        have b1 := hr3.block (Array.getElem?_eq_some_iff.1 hlb).1 hnS hnl
        have b2 := hr3.block (Array.getElem?_eq_some_iff.1 hkb).1 hnSD hd
        have hl3 : W3.heap[w.heap.size + 1]? = some (.loop { rec .ready none with state := .busy }) := b1.1.trans hlb
        have hk3 : W3.heap[w.heap.size]? = some (.deferred (some [])) := b2.1.trans hkb
        have hrun := run_endRound (P := P) jump hl3
        have hl3' := hl3
        rw [hrec] at hrun hl3' ⊢
        have hfW : Frm (fun k => S k ∨ (T' k ∨ k = w.heap.size + 1)) W W3 := by
          have h1 : Frm (fun k => S k ∨ (T' k ∨ k = w.heap.size + 1)) W Wb := by rw [← hWb]; exact (Frm.of_below hba).putObj (.inl (.inr (.inr rfl))) _
          exact h1.trans (hr3.frm.mono fun k _ hk => hk.elim .inl fun h => .inr (.inl h))
        have hTW : ∀ k, T2 k → T' k ∨ W.heap.size ≤ k := fun k hk => (hr3.grow k hk).elim .inl fun h => .inr (Nat.le_trans hsb h)
        refine ⟨hrun, ⟨hfW.putObj (.inl (.inr (.inr rfl))) _, fun k hk => hk.elim (fun h => (hTW k h).elim (fun h => .inl (.inl h)) .inr) (fun h => .inl (.inr h)), fun k hk => hk.elim (fun h => .inl (hr3.keep k h)) .inr, ?_⟩, ⟨hG.put _ hg3 hl3' rfl hnS, hG.add (hG.put _ hg3 hl3' rfl hnS) (World.putObj_heap_same (Array.getElem?_eq_some_iff.1 hl3).1) rfl hnS⟩, ?_, frm_put _ (.inr ⟨by omega, b1.2⟩), b2.2, b1.2, World.putObj_heap_same (Array.getElem?_eq_some_iff.1 hl3).1, (World.putObj_heap_other (by omega)).trans hk3⟩
        · rintro k (hk | rfl)
          · simpa using hr3.lt k hk
          · simpa using (Array.getElem?_eq_some_iff.1 hl3).1
        · have h1 : Rnd S T0 T' w Wb := ⟨hfwb, hrn.grow, hrn.keep, fun k hk => Nat.lt_of_lt_of_le (hTlt k hk) hsb⟩
          have h2 := h1.trans hr3
          exact ⟨h2.frm.putObj (.inr (by omega)) _, h2.grow, h2.keep, fun k hk => by simpa using h2.lt k hk⟩
      rintro e a3 W3 hp
      cases e with
      | normal =>
        obtain ⟨T2, hr3, hg3, hi3⟩ := hp
        obtain ⟨f1, f2, ⟨f3, f3'⟩, f4, f5, f6, f7, f8, f9⟩ := fin none T2 W3 hr3 hg3
        exact ⟨_, _, f1, _, f2, f3', .inl ⟨rfl, T2, rfl, hI _ _ _ _ hi3 hg3 f3 hr3.lt f5, f4, f6, f7, f8, f9⟩⟩
      | ret =>
        obtain ⟨T2, hr3, hg3, hi3⟩ := hp
        obtain ⟨f1, f2, ⟨f3, f3'⟩, f4, f5, f6, f7, f8, f9⟩ := fin (some .ret) T2 W3 hr3 hg3
        exact ⟨_, _, f1, _, f2, f3', .inr ⟨rfl, .ret, T2, rfl, hIx _ _ _ _ _ hi3 hg3 f3 hr3.lt f5, f4, f6, f7, f8, f9⟩⟩
      | exit id =>
        obtain ⟨T2, hr3, hg3, hi3⟩ := hp
        obtain ⟨f1, f2, ⟨f3, f3'⟩, f4, f5, f6, f7, f8, f9⟩ := fin (some (.exit id)) T2 W3 hr3 hg3
        exact ⟨_, _, f1, _, f2, f3', .inr ⟨rfl, .exit id, T2, rfl, hIx _ _ _ _ _ hi3 hg3 f3 hr3.lt f5, f4, f6, f7, f8, f9⟩⟩
      | goto t =>
        obtain ⟨T2, hr3, hg3, hi3⟩ := hp
        obtain ⟨f1, f2, ⟨f3, f3'⟩, f4, f5, f6, f7, f8, f9⟩ := fin (some (.goto t)) T2 W3 hr3 hg3
        exact ⟨_, _, f1, _, f2, f3', .inr ⟨rfl, .goto t, T2, rfl, hIx _ _ _ _ _ hi3 hg3 f3 hr3.lt f5, f4, f6, f7, f8, f9⟩⟩
      | panic ch => exact hp.elim
      | outgrown => exact hp.elim
    · exact ⟨T0, rfl, hI1, ⟨.of_below hbw, fun _ h => .inl h, fun _ h => h, fun k hk => by have := hT0 k hk; omega⟩, fun h => by have := hT0 _ h; omega, fun h => by have := hT0 _ h; omega, hL1, hK1⟩
    · -- BEHIND THE ITERATOR
      have hnS : ¬ S (w.heap.size + 1) := fun h => by have := hS _ h; omega
      rintro e W2 ⟨⟨v, rfl⟩, T, _, hg2, (⟨T', rfl, hi, hr, hd, hnl, hl, hk⟩ | ⟨pre, hpre, c, T', rfl, hi, hr, hd, hnl, hl, hk⟩)⟩
      · have hg2 := hG.sub (T' := T') hg2 fun _ => .inl
        have hg3 := fun o' => hG.put (l := w.heap.size + 1) o' hg2 hl rfl hnS
        refine ⟨none, _, by have := run_endLoop (P := P) hl (by rw [hrec]; simp); rw [hrec] at this; exact this, hdone _ T' _ (Nat.le_refl _) hd ⟨hr.frm.putObj (.inr (by omega)) _, hr.grow, hr.keep, fun k hk => by simpa using hr.lt k hk⟩ (hg3 _) (hI _ _ _ _ hi hg2 (hg3 _) hr.lt (frm_put _ (.inr ⟨by omega, hnl⟩))) ((World.putObj_heap_other (by omega)).trans hk)⟩
      · have hg2 := hG.sub (T' := T') hg2 fun _ => .inl
        have hg3 := fun o' => hG.put (l := w.heap.size + 1) o' hg2 hl rfl hnS
        refine ⟨some c, _, by have := run_endLoop (P := P) hl (by rw [hrec]; simp); rw [hrec] at this; exact this, hstop _ c T' pre _ (Nat.le_refl _) hd ⟨hr.frm.putObj (.inr (by omega)) _, hr.grow, hr.keep, fun k hk => by simpa using hr.lt k hk⟩ (hg3 _) hpre (hIx c _ _ _ _ hi hg2 (hg3 _) hr.lt (frm_put _ (.inr ⟨by omega, hnl⟩))) ((World.putObj_heap_other (by omega)).trans hk)⟩

end Go.Sh
