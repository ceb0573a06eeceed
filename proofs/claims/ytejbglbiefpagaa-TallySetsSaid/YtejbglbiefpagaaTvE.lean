/- tally: what is known by the calls of a set. -/
import Derived.Test.YtejbglbiefpagaaTvD
import Derived.Test.YtejbglbiefpagaaKf
set_option linter.all false
namespace Go.Proofs.Ytejbglbiefpagaa
open Go Go.RowKit Go.Sh Go.Pv
set_option maxHeartbeats 4000000
set_option maxRecDepth 8000
/-- The number of how many there are in all pens before one. -/
def posM (N i : Nat) : Nat := if i = 0 ∨ i = N then i else 5 + i
theorem posM_cast (N i : Nat) : posN N i = ((posM N i : Nat) : Int) := by
  unfold posN posM
  by_cases h : i = 0 ∨ i = N
  · rw [if_pos h, if_pos (by omega)]
  · rw [if_neg h, if_neg (by omega)]; omega
theorem posM_lt {N i : Nat} (hN : N ≤ 5) (hi : i ≤ N) : posM N i < 11 := by
  unfold posM; split <;> omega
/-- A table with a bound. -/
def putB (f : Nat → Nat → Int) (a b : Nat) (lo hi : Int) : Nat → Nat → Int := put1 (put1 f a b hi) b a (0 - lo)
section
variable (N : Nat) (most : Int) (strays : List (Int × Int)) (calls : List (Int × Int × Int × Int)) (set : Nat)
def F0 : Nat → Nat → Nat → Int
  | 0 => emptyF
  | i + 1 => putB (putB (F0 i) (i + 1) i 0 most) (posM N (i + 1)) (posM N i) 0 65536
def F1 : Nat → Nat → Nat → Int
  | 0 => F0 N most N
  | i + 1 => putB (F1 i) (i + 1) (posM N (i + 1)) (strays.getD i (0, 0)).1 (strays.getD i (0, 0)).2
/-- A call's two numbers. -/
def cntA (c : Int × Int × Int × Int) : Nat := if c.1 = 0 then c.2.1.toNat + 1 else if c.1 = 1 then posM N (c.2.1.toNat + 1) else N
def cntZ (c : Int × Int × Int × Int) : Nat := if c.1 = 0 then c.2.1.toNat else if c.1 = 1 then posM N c.2.1.toNat else 0
def putC (f : Nat → Nat → Int) (c : Int × Int × Int × Int) : Nat → Nat → Int := putB f (cntA N c) (cntZ N c) c.2.2.1 c.2.2.2
def F2 : Nat → Nat → Nat → Int
  | 0 => F1 N most strays strays.length
  | i + 1 => if set.testBit i then putC N (F2 i) (calls.getD i (0, 0, 0, 0)) else F2 i
/-- What is known by the calls of a set. -/
def tabF : Nat → Nat → Int := F2 N most strays calls set calls.length
/-- A tally that is valid. -/
structure TOK : Prop where
  n1 : 1 ≤ N
  n5 : N ≤ 5
  m0 : 0 ≤ most
  m60 : most ≤ 60
  sl : strays.length + 1 = N
  cl : calls.length ≤ 8
  st : ∀ i, i < strays.length → spanB (strays.getD i (0, 0)).1 (strays.getD i (0, 0)).2 (-3) 3 = true
  ca : ∀ i, i < calls.length → isCallB N (calls.getD i (0, 0, 0, 0)) = true
end
/-- How far a table's numbers lie, after so many steps. -/
def InB (k : Nat) (f : Nat → Nat → Int) : Prop := ∀ i j, i < 11 → j < 11 → -(65536 * (2 ^ k - 1)) ≤ f i j ∧ f i j ≤ 65536
theorem inB_empty : InB 0 emptyF := by
  intro i j _ _
  unfold emptyF
  split <;> simp
theorem inB_put1 {k : Nat} {f : Nat → Nat → Int} (h : InB k f) {a b : Nat} {m : Int} (ha : a < 11) (hb : b < 11) (hm : -65536 ≤ m) : InB (k + 1) (put1 f a b m) := by
  intro i j hi hj
  have h1 := h i j hi hj
  have h2 := h i a hi ha
  have h3 := h b j hb hj
  have hp : (2 : Int) ^ (k + 1) = 2 * 2 ^ k := by rw [Int.pow_succ]; omega
  have hk : (1 : Int) ≤ 2 ^ k := by
    have : 0 < 2 ^ k := Nat.two_pow_pos k
    have h : ((2 ^ k : Nat) : Int) = (2 : Int) ^ k := by norm_cast
    omega
  rw [hp]
  generalize (2 : Int) ^ k = q at *
  unfold put1
  split
  · omega
  · unfold minF; split <;> omega
theorem inB_putB {k : Nat} {f : Nat → Nat → Int} (h : InB k f) {a b : Nat} {lo hi : Int} (ha : a < 11) (hb : b < 11) (hm : -65536 ≤ hi) (hl : lo ≤ 65536) : InB (k + 2) (putB f a b lo hi) :=
  inB_put1 (inB_put1 h ha hb hm) hb ha (by omega)
theorem inB_far {k : Nat} {f : Nat → Nat → Int} (h : InB k f) (hk : k ≤ 44) : ∀ i j, i < 11 → j < 11 → -1152921504606846976 ≤ f i j ∧ f i j ≤ 1152921504606846976 := by
  intro i j hi hj
  have h1 := h i j hi hj
  have h2 : (2 : Int) ^ k ≤ 2 ^ 44 := by
    have : 2 ^ k ≤ 2 ^ 44 := Nat.pow_le_pow_right (by decide) hk
    exact_mod_cast this
  have h3 : (2 : Int) ^ 44 = 17592186044416 := by decide
  rw [h3] at h2
  generalize (2 : Int) ^ k = q at *
  omega
theorem inB_up {k m : Nat} {f : Nat → Nat → Int} (h : InB k f) (hk : k ≤ m) : InB m f := by
  intro i j hi hj
  have h1 := h i j hi hj
  have h2 : (2 : Int) ^ k ≤ 2 ^ m := by
    have : 2 ^ k ≤ 2 ^ m := Nat.pow_le_pow_right (by decide) hk
    exact_mod_cast this
  generalize (2 : Int) ^ k = q at *
  generalize (2 : Int) ^ m = p at *
  omega
section
variable {N : Nat} {most : Int} {strays : List (Int × Int)} {calls : List (Int × Int × Int × Int)} {set : Nat}
theorem inB_F0 (h : TOK N most strays calls) : ∀ i, i ≤ N → InB (4 * i) (F0 N most i)
  | 0, _ => inB_empty
  | i + 1, hi => by
    have ih := inB_F0 h i (by omega)
    have := h.n5
    have := h.m0
    exact inB_putB (inB_putB ih (by omega) (by omega) (by omega) (by omega)) (posM_lt h.n5 hi) (posM_lt h.n5 (by omega)) (by omega) (by omega)
theorem span_of {lo hi low high : Int} (h : spanB lo hi low high = true) : low ≤ lo ∧ lo ≤ hi ∧ hi ≤ high := by
  simp only [spanB, Bool.and_eq_true, decide_eq_true_eq] at h
  exact ⟨h.1.1, h.1.2, h.2⟩
theorem inB_F1 (h : TOK N most strays calls) : ∀ i, i ≤ strays.length → InB (4 * N + 2 * i) (F1 N most strays i)
  | 0, _ => inB_F0 h N (Nat.le_refl _)
  | i + 1, hi => by
    have ih := inB_F1 h i (by omega)
    have := h.n5
    have := h.sl
    have hs := span_of (h.st i (by omega))
    exact inB_putB ih (by omega) (posM_lt h.n5 (by omega)) (by omega) (by omega)
theorem call_of {c : Int × Int × Int × Int} (h : isCallB N c = true) : (c.1 = 2 ∨ ((c.1 = 0 ∨ c.1 = 1) ∧ 0 ≤ c.2.1 ∧ c.2.1 < N)) ∧ 0 ≤ c.2.2.1 ∧ c.2.2.1 ≤ c.2.2.2 ∧ c.2.2.2 ≤ 300 := by
  simp only [isCallB, inB, Bool.and_eq_true, Bool.or_eq_true, decide_eq_true_eq] at h
  have hs := span_of h.2
  refine ⟨?_, hs⟩
  rcases h.1 with h1 | ⟨h1, h2⟩
  · exact .inl h1
  · exact .inr ⟨by omega, by omega⟩
theorem cnt_lt (hN : 1 ≤ N) (h5 : N ≤ 5) {c : Int × Int × Int × Int} (h : isCallB N c = true) : cntA N c < 11 ∧ cntZ N c < 11 := by
  have hc := call_of h
  unfold cntA cntZ
  rcases hc.1 with h1 | ⟨h1 | h1, h2⟩
  · rw [if_neg (by omega), if_neg (by omega), if_neg (by omega), if_neg (by omega)]; omega
  · rw [if_pos h1, if_pos h1]; omega
  · rw [if_neg (by omega), if_pos h1, if_neg (by omega), if_pos h1]
    exact ⟨posM_lt h5 (by omega), posM_lt h5 (by omega)⟩
theorem inB_putC {k : Nat} {f : Nat → Nat → Int} (hN : 1 ≤ N) (h5 : N ≤ 5) (hf : InB k f) {c : Int × Int × Int × Int} (h : isCallB N c = true) : InB (k + 2) (putC N f c) := by
  have hc := call_of h
  have hl := cnt_lt hN h5 h
  exact inB_putB hf hl.1 hl.2 (by omega) (by omega)
theorem inB_F2 (h : TOK N most strays calls) : ∀ i, i ≤ calls.length → InB (4 * N + 2 * strays.length + 2 * i) (F2 N most strays calls set i)
  | 0, _ => inB_F1 h _ (Nat.le_refl _)
  | i + 1, hi => by
    have ih := inB_F2 h i (by omega)
    unfold F2
    split
    · exact inB_putC h.n1 h.n5 ih (h.ca i (by omega))
    · exact inB_up ih (by omega)
end
/-- A table, as a value. -/
def tabV (f : Nat → Nat → Int) : Value := .agg ((mk f).map fun n => Value.int .i64 n).toArray
/-- What the memory keeps. -/
def keepI (F : Nat → Nat → Nat → Int) (k v : Value) : Prop := ∃ s : Nat, k = .agg #[.int .u64 (s : Int)] ∧ v = tabV (F s)
theorem relR_tab (f : Nat → Nat → Int) : ∀ (Z : Nat → Nat → Prop) (w : World), RelR Z w (.agg ((mk f).map iP)) (tabV f) := by
  intro Z w
  refine ⟨_, rfl, by simp, fun j c hj => ?_⟩
  rw [List.getElem?_map] at hj
  obtain ⟨n, hn, rfl⟩ := Option.map_eq_some_iff.1 hj
  exact ⟨.int .i64 n, by simp [hn], .v _ rfl⟩
theorem plain_tab : ∀ T : List Int, (tab T).mapM plainC = some (T.map fun n => Value.int .i64 n)
  | [] => rfl
  | n :: T => by
    have ih := plain_tab T
    unfold tab at ih ⊢
    simp only [List.map_cons, List.mapM_cons, ih]
    rfl
theorem mapO_plain (T : List Int) : mapO plainC (tab T) = some (T.map fun n => Value.int .i64 n) := by rw [← mapM_eq]; exact plain_tab T
theorem get_some4 {l : List (Int × Int × Int × Int)} {k : Nat} (h : k < l.length) : l[k]? = some (l.getD k (0, 0, 0, 0)) := by simp [List.getD, h]
theorem Try.laidOut : laidOutB Try.prog = true := by kernel_rfl
theorem key135 : WideMaps.KeyLaw Try.prog 135 := deep_law_laid Try.laidOut (m := 5) (by omega) (of_decide_eq_true (by kernel_rfl)) (by kernel_rfl) (by kernel_rfl)
theorem und87 : Try.prog.underlying 87 = some (.map 135 92) := by kernel_rfl
theorem cells135 : Try.prog.cellsOf 135 = 1 := by kernel_rfl
theorem cells104 : Try.prog.cellsOf 104 = 1 := by kernel_rfl
theorem types_size : Try.prog.types.size = 169 := by kernel_rfl
theorem keyOf135 (s : Int) (hs : 0 ≤ s ∧ s < 18446744073709551616) : ∃ l, keyOf Try.prog 135 (.agg #[.int .u64 s]) = some l := by
  have hw : (Lit.int .u64 s).wf = true := by
    have : IntKind.min .u64 = 0 ∧ IntKind.max .u64 = 18446744073709551615 := by decide
    simp only [Lit.wf, Bool.and_eq_true, decide_eq_true_eq]; omega
  have h1 : Try.prog.keyType 135 = true := by kernel_rfl
  have i0 : ∀ d, Try.prog.keyLits (d + 1) 104 [.int .u64 s] = some [.int .u64 s] := fun d => by
    unfold Program.keyLits; simp [Try.underlying104, hw]
  have i2 : ∀ d, Try.prog.keyLits (d + 1 + 1) 135 [.int .u64 s] = some [.int .u64 s] := fun d => by
    unfold Program.keyLits; simp [Try.underlying135, cells135, cells104, i0]
  unfold keyOf
  simp only [Try.underlying135, h1, types_size, Value.formed, Value.cells, cells135]
  exact ⟨_, by rw [show (169 + 1 : Nat) = 168 + 1 + 1 from rfl, i2 168]; rfl⟩
theorem zero92 : ∀ w, (zeroValue 92).run Try.prog w = .ok (tabV fun _ _ => 0) w := fun w => by kernel_rfl
end Go.Proofs.Ytejbglbiefpagaa
