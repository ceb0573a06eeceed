/- tally, plain: one call more, a call that is known better, and the other side (TallyMore). -/
import Derived.Test.YtejbglbiefpagaaTxF
set_option linter.all false
namespace Go.Proofs.Ytejbglbiefpagaa
open Go Go.RowKit Go.Sh Go.Pv
set_option maxHeartbeats 1000000
/-- What is answered of a tally, and of one of its shearers. -/
structure Ans (N : Nat) (most : Int) (strays : List (Int × Int)) (calls : List (Int × Int × Int × Int)) (i : Nat) (a b d : Int × Int) (e few w hh : Int) : Prop where
  q14 : FunOK Try.prog 14 [tyR N most strays calls, .one (iP i)] (.tup [.agg [iP a.1, iP a.2], .one (iP e)])
  q16 : FunOK Try.prog 16 [tyR N most strays calls, .one (iP i)] (.tup [.agg [iP b.1, iP b.2], .one (iP e)])
  q20 : FunOK Try.prog 20 [tyR N most strays calls, .one (iP 0), .one (iP ((N : Int) - 1))] (.tup [.agg [iP d.1, iP d.2], .one (iP e)])
  q24 : FunOK Try.prog 24 [tyR N most strays calls] (.tup [.one (iP few), .one (iP w), .one (iP hh)])
  ok : Whole N most strays calls → e = 0 ∧ Spans N most strays calls (fun x _ => x i) a ∧ Spans N most strays calls (fun x y => penT N x y i) b ∧ Spans N most strays calls (fun x _ => sumT x N) d
  no : ¬ Whole N most strays calls → e = 10 ∧ a = (0, 0) ∧ b = (0, 0) ∧ d = (0, 0)
  fk : Feas N most strays calls 0 → hh = 0 ∧ ∃ wn s : Nat, few = popc wn ∧ Outs N most strays calls wn s
  fn : ¬ Feas N most strays calls 0 → hh = 10 ∧ few = 0
section
variable {N : Nat} {most : Int} {strays : List (Int × Int)} {calls : List (Int × Int × Int × Int)}
theorem ans_of (h : TOK N most strays calls) {i : Nat} (hi : i < N) : ∃ a b d e few w hh, Ans N most strays calls i a b d e few w hh := by
  have n1 := h.n1
  have e1 : ((N - 1 : Nat) : Int) = (N : Int) - 1 := by omega
  have fal : ∃ few w hh, FunOK Try.prog 24 [tyR N most strays calls] (.tup [.one (iP few), .one (iP w), .one (iP hh)]) ∧ (Feas N most strays calls 0 → hh = 0 ∧ ∃ wn s : Nat, few = popc wn ∧ Outs N most strays calls wn s) ∧ (¬ Feas N most strays calls 0 → hh = 10 ∧ few = 0) := by
    by_cases h0 : Feas N most strays calls 0
    · obtain ⟨w, s, q, _, ho⟩ := c_False h h0
      exact ⟨_, _, _, q, fun _ => ⟨rfl, w, s, rfl, ho⟩, fun hn => absurd h0 hn⟩
    · exact ⟨_, _, _, (x_False h h0).1, fun hn => absurd hn h0, fun _ => ⟨rfl, rfl⟩⟩
  obtain ⟨few, w, hh, q24, fk, fn⟩ := fal
  by_cases hf : Whole N most strays calls
  · obtain ⟨a, qa, sa⟩ := c_Shorn h hf hi
    obtain ⟨b, qb, sb⟩ := c_Pen h hf hi
    obtain ⟨d, qd, sd⟩ := c_Together h hf (i := 0) (j := N - 1) (by omega) (by omega)
    rw [e1] at qd
    rw [show N - 1 + 1 = N by omega] at sd
    exact ⟨a, b, d, 0, few, w, hh, qa, qb, qd, q24, fun _ => ⟨rfl, sa, sb, fun x => by
      have := sd x
      simp only [sumT, Int.sub_zero] at this
      exact this⟩, fun hn => absurd hf hn, fk, fn⟩
  · have qd := x_Together h hf (i := 0) (j := N - 1) (by omega) (by omega)
    rw [e1] at qd
    exact ⟨(0, 0), (0, 0), (0, 0), 10, few, w, hh, x_Shorn h hf hi, x_Pen h hf hi, qd, q24, fun hn => absurd hn hf, fun _ => ⟨rfl, rfl, rfl, rfl⟩, fk, fn⟩
theorem spans_sub {calls' : List (Int × Int × Int × Int)} {g : (Nat → Int) → (Nat → Int) → Int} {r r' : Int × Int} (hf : Whole N most strays calls') (hw : ∀ x y, IsT N most strays calls' (2 ^ calls'.length - 1) x y → IsT N most strays calls (2 ^ calls.length - 1) x y) (s : Spans N most strays calls g r) (s' : Spans N most strays calls' g r') : r.1 ≤ r'.1 ∧ r'.2 ≤ r.2 := by
  obtain ⟨x, y, t, e⟩ := spans_lo hf s'
  obtain ⟨x2, y2, t2, e2⟩ := spans_hi hf s'
  have := spans_in s (hw _ _ t)
  have := spans_in s (hw _ _ t2)
  omega
theorem feas_zero {calls' : List (Int × Int × Int × Int)} : Feas N most strays calls 0 ↔ Feas N most strays calls' 0 := by
  constructor <;> rintro ⟨x, y, t⟩ <;> exact ⟨x, y, t.sh, t.st, t.pe, fun i _ hb => by rw [Nat.zero_testBit] at hb; cases hb⟩
theorem outs_least {w s x : Nat} (ho : Outs N most strays calls w s) (hx : x < 2 ^ calls.length) (hf : Feas N most strays calls (diffN (2 ^ calls.length - 1) x)) : popc w ≤ popc x := by
  rcases ho.least x hx hf with h | h
  · subst h; exact Nat.le_refl _
  · unfold ahead at h; omega
theorem ans_sub {calls' : List (Int × Int × Int × Int)} {i : Nat} {a b d : Int × Int} {e few w hh : Int} {a' b' d' : Int × Int} {e' few' w' hh' : Int}
    (A : Ans N most strays calls i a b d e few w hh) (A' : Ans N most strays calls' i a' b' d' e' few' w' hh')
    (hw : ∀ x y, IsT N most strays calls' (2 ^ calls'.length - 1) x y → IsT N most strays calls (2 ^ calls.length - 1) x y)
    (hfew : ∀ x, x < 2 ^ calls'.length → Feas N most strays calls' (diffN (2 ^ calls'.length - 1) x) → ∃ z, z < 2 ^ calls.length ∧ popc z ≤ popc x ∧ Feas N most strays calls (diffN (2 ^ calls.length - 1) z)) :
    (e' = 0 ∨ e' = 10) ∧ (e' = 0 → e = 0 ∧ (a.1 ≤ a'.1 ∧ a'.2 ≤ a.2) ∧ (b.1 ≤ b'.1 ∧ b'.2 ≤ b.2) ∧ d.1 ≤ d'.1 ∧ d'.2 ≤ d.2) ∧ hh' = hh ∧ few ≤ few' := by
  refine ⟨?_, fun h0 => ?_, ?_⟩
  · by_cases hf : Whole N most strays calls'
    · exact .inl (A'.ok hf).1
    · exact .inr (A'.no hf).1
  · have hf : Whole N most strays calls' := Classical.byContradiction fun hn => by have := (A'.no hn).1; omega
    obtain ⟨x, y, t⟩ := id hf
    have hf0 : Whole N most strays calls := ⟨x, y, hw _ _ t⟩
    obtain ⟨h1, h2, h3, h4⟩ := A.ok hf0
    obtain ⟨_, g2, g3, g4⟩ := A'.ok hf
    exact ⟨h1, spans_sub hf hw h2 g2, spans_sub hf hw h3 g3, spans_sub hf hw h4 g4⟩
  · by_cases h0 : Feas N most strays calls 0
    · obtain ⟨h1, wn, s, rfl, ho⟩ := A.fk h0
      obtain ⟨h2, wn', s', rfl, ho'⟩ := A'.fk (feas_zero.1 h0)
      refine ⟨by rw [h1, h2], ?_⟩
      obtain ⟨z, hz, hzp, hzf⟩ := hfew wn' ho'.lt ho'.ok
      have := outs_least ho hz hzf
      omega
    · have h1 := A.fn h0
      have h2 := A'.fn fun hn => h0 (feas_zero.1 hn)
      omega
theorem popc_mod_all : (List.range 8).all (fun m => (List.range 256).all fun w => Nat.ble (popc (w % 2 ^ m)) (popc w)) = true := by decide +kernel
theorem popc_mod {m w : Nat} (hm : m < 8) (hw : w < 256) : popc (w % 2 ^ m) ≤ popc w := by
  have := List.all_eq_true.1 (List.all_eq_true.1 popc_mod_all m (List.mem_range.2 hm)) w (List.mem_range.2 hw)
  exact Nat.le_of_ble_eq_true this
theorem popc_add_all : (List.range 8).all (fun m => (List.range (2 ^ m)).all fun w => Nat.beq (popc (w + 2 ^ m)) (popc w + 1)) = true := by decide +kernel
theorem popc_add {m w : Nat} (hm : m < 8) (hw : w < 2 ^ m) : popc (w + 2 ^ m) = popc w + 1 := by
  have := List.all_eq_true.1 (List.all_eq_true.1 popc_add_all m (List.mem_range.2 hm)) w (List.mem_range.2 hw)
  exact Nat.eq_of_beq_eq_true this
/-- One call more. -/
theorem more_one (h : TOK N most strays calls) {c : Int × Int × Int × Int} (h' : TOK N most strays (calls ++ [c])) {i : Nat} {a b d : Int × Int} {e few w hh : Int} {a' b' d' : Int × Int} {e' few' w' hh' : Int}
    (A : Ans N most strays calls i a b d e few w hh) (A' : Ans N most strays (calls ++ [c]) i a' b' d' e' few' w' hh') :
    ((e' = 0 ∨ e' = 10) ∧ (e' = 0 → e = 0 ∧ (a.1 ≤ a'.1 ∧ a'.2 ≤ a.2) ∧ (b.1 ≤ b'.1 ∧ b'.2 ≤ b.2) ∧ d.1 ≤ d'.1 ∧ d'.2 ≤ d.2) ∧ hh' = hh ∧ few ≤ few') ∧ few' ≤ few + 1 := by
  have hl : calls.length < 8 := by have := h'.cl; simp at this; omega
  have hlen : (calls ++ [c]).length = calls.length + 1 := by simp
  have gl : ∀ k, k < calls.length → (calls ++ [c]).getD k (0, 0, 0, 0) = calls.getD k (0, 0, 0, 0) := fun k hk => by
    rw [List.getD_eq_getElem?_getD, List.getD_eq_getElem?_getD, List.getElem?_append_left hk]
  refine ⟨ans_sub A A' (fun x y t => (isT_snoc.1 t).1) (fun x hx hf => ⟨x % 2 ^ calls.length, Nat.mod_lt _ (Nat.two_pow_pos _), popc_mod hl (lt_pow8 (by have := h'.cl; exact this) hx), ?_⟩), ?_⟩
  · obtain ⟨p, q, t⟩ := hf
    refine ⟨p, q, t.sh, t.st, t.pe, fun k hk hb => ?_⟩
    have := t.ca k (by omega) (by
      rw [diff_every_bit] at hb ⊢
      simp only [Nat.testBit_mod_two_pow, Bool.and_eq_true, decide_eq_true_eq, Bool.not_eq_true', Bool.and_eq_false_iff, decide_eq_false_iff_not] at hb ⊢
      exact ⟨by omega, hb.2.resolve_left (fun hn => hn hk)⟩)
    rw [gl k hk] at this
    exact this
  · by_cases h0 : Feas N most strays calls 0
    · obtain ⟨h1, wn, s, rfl, ho⟩ := A.fk h0
      obtain ⟨h2, wn', s', rfl, ho'⟩ := A'.fk (feas_zero.1 h0)
      obtain ⟨p, q, t⟩ := ho.ok
      have hlt : wn + 2 ^ calls.length < 2 ^ (calls ++ [c]).length := by
        have := ho.lt
        rw [hlen, Nat.pow_succ]; omega
      have hbit : ∀ k, k ≤ calls.length → (wn + 2 ^ calls.length).testBit k = if k = calls.length then true else wn.testBit k := fun k hkl => by
        rw [show wn + 2 ^ calls.length = 2 ^ calls.length + wn by omega]
        by_cases hk : k = calls.length
        · rw [if_pos hk, hk, Nat.testBit_two_pow_add_eq, Nat.testBit_lt_two_pow ho.lt]; rfl
        · rw [if_neg hk, Nat.testBit_two_pow_add_gt (by omega)]
      have := outs_least ho' hlt ⟨p, q, t.sh, t.st, t.pe, fun k hk hb => by
        rw [diff_every_bit, hbit k (by omega)] at hb
        by_cases hkl : k = calls.length
        · rw [if_pos hkl] at hb; simp at hb
        · rw [if_neg hkl] at hb
          have hk' : k < calls.length := by omega
          rw [gl k hk']
          refine t.ca k hk' ?_
          rw [diff_every_bit]
          simp only [Bool.and_eq_true, decide_eq_true_eq] at hb ⊢
          exact ⟨hk', hb.2⟩⟩
      rw [popc_add hl ho.lt] at this
      omega
    · have h1 := A.fn h0
      have h2 := A'.fn fun hn => h0 (feas_zero.1 hn)
      omega
/-- A call that is known better. -/
theorem more_set {k : Nat} {c : Int × Int × Int × Int} (hk : k < calls.length) (hc : c.1 = (calls.getD k (0, 0, 0, 0)).1 ∧ c.2.1 = (calls.getD k (0, 0, 0, 0)).2.1 ∧ (calls.getD k (0, 0, 0, 0)).2.2.1 ≤ c.2.2.1 ∧ c.2.2.2 ≤ (calls.getD k (0, 0, 0, 0)).2.2.2) {i : Nat} {a b d : Int × Int} {e few w hh : Int} {a' b' d' : Int × Int} {e' few' w' hh' : Int}
    (A : Ans N most strays calls i a b d e few w hh) (A' : Ans N most strays (calls.set k c) i a' b' d' e' few' w' hh') :
    (e' = 0 ∨ e' = 10) ∧ (e' = 0 → e = 0 ∧ (a.1 ≤ a'.1 ∧ a'.2 ≤ a.2) ∧ (b.1 ≤ b'.1 ∧ b'.2 ≤ b.2) ∧ d.1 ≤ d'.1 ∧ d'.2 ≤ d.2) ∧ hh' = hh ∧ few ≤ few' := by
  have hlen : (calls.set k c).length = calls.length := by simp
  have mono : ∀ S x y, IsT N most strays (calls.set k c) S x y → IsT N most strays calls S x y := fun S x y t => ⟨t.sh, t.st, t.pe, fun j hj hb => by
    have := t.ca j (by omega) hb
    rw [List.getD_eq_getElem?_getD, List.getElem?_set] at this
    by_cases hjk : k = j
    · subst hjk
      rw [if_pos rfl, if_pos hk, Option.getD_some] at this
      have e1 : cntT N x y c = cntT N x y (calls.getD k (0, 0, 0, 0)) := by unfold cntT; rw [hc.1, hc.2.1]
      rw [e1] at this
      omega
    · rw [if_neg hjk, ← List.getD_eq_getElem?_getD] at this
      exact this⟩
  refine ans_sub A A' (fun x y t => ?_) (fun x hx hf => ?_)
  · rw [hlen] at t; exact mono _ _ _ t
  · rw [hlen] at hx hf
    obtain ⟨p, q, t⟩ := hf
    exact ⟨x, hx, Nat.le_refl _, p, q, mono _ _ _ t⟩
theorem more_same {i : Nat} {a b d : Int × Int} {e few w hh : Int} {a' b' d' : Int × Int} {e' few' w' hh' : Int}
    (A : Ans N most strays calls i a b d e few w hh) (A' : Ans N most strays calls i a' b' d' e' few' w' hh') :
    (e' = 0 ∨ e' = 10) ∧ (e' = 0 → e = 0 ∧ (a.1 ≤ a'.1 ∧ a'.2 ≤ a.2) ∧ (b.1 ≤ b'.1 ∧ b'.2 ≤ b.2) ∧ d.1 ≤ d'.1 ∧ d'.2 ≤ d.2) ∧ hh' = hh ∧ few ≤ few' :=
  ans_sub A A' (fun x y t => t) (fun x hx hf => ⟨x, hx, Nat.le_refl _, hf⟩)
end
/-! ### From the other side -/
def revB (m S : Nat) : Nat := (List.range m).foldl (fun a i => if S.testBit i then a + 2 ^ (m - 1 - i) else a) 0
theorem revB_all : (List.range 9).all (fun m => (List.range (2 ^ m)).all fun S => Nat.blt (revB m S) (2 ^ m) && Nat.beq (popc (revB m S)) (popc S) && (List.range m).all fun i => (revB m S).testBit i == S.testBit (m - 1 - i)) = true := by decide +kernel
theorem revB_of {m S : Nat} (hm : m ≤ 8) (hS : S < 2 ^ m) : revB m S < 2 ^ m ∧ popc (revB m S) = popc S ∧ ∀ i, i < m → (revB m S).testBit i = S.testBit (m - 1 - i) := by
  have := List.all_eq_true.1 (List.all_eq_true.1 revB_all m (List.mem_range.2 (by omega))) S (List.mem_range.2 hS)
  simp only [Bool.and_eq_true, List.all_eq_true, List.mem_range, beq_iff_eq] at this
  exact ⟨by have := this.1.1; unfold Nat.blt at this; exact Nat.le_of_ble_eq_true this, Nat.eq_of_beq_eq_true this.1.2, this.2⟩
theorem sum_shift (x : Nat → Int) : ∀ n, sumT x (n + 1) = x 0 + sumT (fun i => x (i + 1)) n
  | 0 => by simp [sumT]
  | n + 1 => by rw [sum_step, sum_shift x n, sum_step]; omega
theorem sumT_congr {f g : Nat → Int} : ∀ {j}, (∀ k, k < j → f k = g k) → sumT f j = sumT g j
  | 0, _ => rfl
  | j + 1, h => by rw [sum_step, sum_step, sumT_congr (j := j) fun k hk => h k (by omega), h j (by omega)]
theorem sum_rev : ∀ (n : Nat) (x : Nat → Int), sumT (fun i => x (n - 1 - i)) n = sumT x n
  | 0, _ => rfl
  | n + 1, x => by
    rw [sum_shift x n, ← sum_rev n fun i => x (i + 1), sum_step]
    have : sumT (fun i => x (n + 1 - 1 - i)) n = sumT (fun i => x (n - 1 - i + 1)) n := sumT_congr fun k hk => by
      show x (n + 1 - 1 - k) = x (n - 1 - k + 1)
      rw [show n + 1 - 1 - k = n - 1 - k + 1 by omega]
    rw [this, show n + 1 - 1 - n = 0 by omega]; omega
def mirC (N : Nat) (c : Int × Int × Int × Int) : Int × Int × Int × Int := if c.1 = 2 then c else (c.1, (N : Int) - 1 - c.2.1, c.2.2.1, c.2.2.2)
theorem mirC_mirC (N : Nat) (c : Int × Int × Int × Int) : mirC N (mirC N c) = c := by
  unfold mirC
  by_cases h : c.1 = 2
  · rw [if_pos h, if_pos h]
  · rw [if_neg h, if_neg h]
    obtain ⟨k, at_, lo, hi⟩ := c
    show (k, (N : Int) - 1 - ((N : Int) - 1 - at_), lo, hi) = (k, at_, lo, hi)
    rw [show (N : Int) - 1 - ((N : Int) - 1 - at_) = at_ by omega]
structure Mir (N : Nat) (strays : List (Int × Int)) (calls : List (Int × Int × Int × Int)) (strays' : List (Int × Int)) (calls' : List (Int × Int × Int × Int)) : Prop where
  sl : strays'.length = strays.length
  cl : calls'.length = calls.length
  sr : ∀ k, k < strays.length → strays'.getD k (0, 0) = (-(strays.getD (strays.length - 1 - k) (0, 0)).2, -(strays.getD (strays.length - 1 - k) (0, 0)).1)
  cr : ∀ k, k < calls.length → calls'.getD k (0, 0, 0, 0) = mirC N (calls.getD (calls.length - 1 - k) (0, 0, 0, 0))
section
variable {N : Nat} {most : Int} {strays strays' : List (Int × Int)} {calls calls' : List (Int × Int × Int × Int)}
theorem Mir.symm (m : Mir N strays calls strays' calls') : Mir N strays' calls' strays calls := by
  refine ⟨m.sl.symm, m.cl.symm, fun k hk => ?_, fun k hk => ?_⟩
  · rw [m.sl] at hk ⊢
    rw [m.sr _ (by omega), show strays.length - 1 - (strays.length - 1 - k) = k by omega]
    simp
  · rw [m.cl] at hk ⊢
    rw [m.cr _ (by omega), show calls.length - 1 - (calls.length - 1 - k) = k by omega, mirC_mirC]
def mX (N : Nat) (x : Nat → Int) (i : Nat) : Int := x (N - 1 - i)
def mY (N : Nat) (y : Nat → Int) (i : Nat) : Int := -y (N - 2 - i)
theorem pen_mir {x y : Nat → Int} {i : Nat} (hi : i < N) : penT N (mX N x) (mY N y) i = penT N x y (N - 1 - i) := by
  unfold penT mX mY
  by_cases h0 : i = 0
  · subst h0
    by_cases h1 : N = 1
    · subst h1; simp
    · rw [if_pos rfl, if_neg (by omega), if_neg (by omega), if_pos (by omega)]
      rw [show N - 1 - 0 - 1 = N - 2 - 0 by omega]; omega
  · rw [if_neg h0]
    rw [show N - 2 - (i - 1) = N - 1 - i by omega]
    by_cases h1 : i + 1 = N
    · rw [if_pos h1, if_pos (by omega), if_neg (by omega)]; omega
    · rw [if_neg h1, if_neg (by omega), if_neg (by omega), show N - 1 - i - 1 = N - 2 - i by omega]; omega
theorem cnt_mir {x y : Nat → Int} {c : Int × Int × Int × Int} (hc : isCallB N c = true) : cntT N (mX N x) (mY N y) (mirC N c) = cntT N x y c := by
  have hcc := (call_of hc).1
  unfold mirC cntT
  by_cases h2 : c.1 = 2
  · rw [if_pos h2, if_neg (by omega), if_neg (by omega), if_neg (by omega), if_neg (by omega)]
    exact sum_rev N x
  · rw [if_neg h2]
    have h3 := hcc.resolve_left h2
    dsimp only
    have e : ((N : Int) - 1 - c.2.1).toNat = N - 1 - c.2.1.toNat := by omega
    rcases h3.1 with h4 | h4
    · rw [if_pos h4, if_pos h4, e]
      unfold mX
      rw [show N - 1 - (N - 1 - c.2.1.toNat) = c.2.1.toNat by omega]
    · rw [if_neg (by omega), if_pos h4, if_neg (by omega), if_pos h4, e, pen_mir (by omega), show N - 1 - (N - 1 - c.2.1.toNat) = c.2.1.toNat by omega]
theorem tok_mir (h : TOK N most strays calls) (m : Mir N strays calls strays' calls') : TOK N most strays' calls' := by
  refine ⟨h.n1, h.n5, h.m0, h.m60, by rw [m.sl]; exact h.sl, by rw [m.cl]; exact h.cl, fun i hi => ?_, fun i hi => ?_⟩
  · rw [m.sl] at hi
    rw [m.sr i hi]
    have := h.st (strays.length - 1 - i) (by omega)
    simp only [spanB, Bool.and_eq_true, decide_eq_true_eq] at this ⊢
    omega
  · rw [m.cl] at hi
    rw [m.cr i hi]
    have := h.ca (calls.length - 1 - i) (by omega)
    have hcc := (call_of this).1
    unfold mirC
    by_cases h2 : (calls.getD (calls.length - 1 - i) (0, 0, 0, 0)).1 = 2
    · rw [if_pos h2]; exact this
    · rw [if_neg h2]
      have h3 := hcc.resolve_left h2
      simp only [isCallB, inB, spanB, Bool.and_eq_true, Bool.or_eq_true, decide_eq_true_eq] at this ⊢
      omega
theorem isT_mir (h : TOK N most strays calls) (m : Mir N strays calls strays' calls') {S S' : Nat} (hS : ∀ i, i < calls.length → S'.testBit i = S.testBit (calls.length - 1 - i)) {x y : Nat → Int} (t : IsT N most strays calls S x y) : IsT N most strays' calls' S' (mX N x) (mY N y) := by
  have sl := h.sl
  refine ⟨fun i hi => t.sh _ (by omega), fun i hi => ?_, fun i hi => ?_, fun i hi hb => ?_⟩
  · rw [m.sl] at hi
    rw [m.sr i hi]
    have := t.st (strays.length - 1 - i) (by omega)
    unfold mY
    rw [show N - 2 - i = strays.length - 1 - i by omega]
    dsimp only; omega
  · rw [pen_mir hi]; exact t.pe _ (by omega)
  · rw [m.cl] at hi
    rw [hS i hi] at hb
    rw [m.cr i hi, cnt_mir (h.ca _ (by omega))]
    have := t.ca _ (by omega) hb
    unfold mirC
    split <;> exact this
theorem whole_mir (h : TOK N most strays calls) (m : Mir N strays calls strays' calls') {x y : Nat → Int} (t : IsT N most strays calls (2 ^ calls.length - 1) x y) : IsT N most strays' calls' (2 ^ calls'.length - 1) (mX N x) (mY N y) :=
  isT_mir h m (fun i hi => by rw [every_bit, every_bit, m.cl]; simp [hi]; omega) t
theorem spans_mir (h : TOK N most strays calls) (m : Mir N strays calls strays' calls') (hf : Whole N most strays calls) {g g' : (Nat → Int) → (Nat → Int) → Int} (hg : ∀ x y, g' (mX N x) (mY N y) = g x y) (hg' : ∀ x y, g (mX N x) (mY N y) = g' x y) {r r' : Int × Int} (s : Spans N most strays calls g r) (s' : Spans N most strays' calls' g' r') : r' = r := by
  have hf' : Whole N most strays' calls' := by obtain ⟨x, y, t⟩ := hf; exact ⟨_, _, whole_mir h m t⟩
  obtain ⟨x, y, t, e⟩ := spans_lo hf s
  obtain ⟨x2, y2, t2, e2⟩ := spans_hi hf s
  obtain ⟨x3, y3, t3, e3⟩ := spans_lo hf' s'
  obtain ⟨x4, y4, t4, e4⟩ := spans_hi hf' s'
  have h' := tok_mir h m
  have b1 := spans_in s' (whole_mir h m t)
  have b2 := spans_in s' (whole_mir h m t2)
  have b3 := spans_in s (whole_mir h' m.symm t3)
  have b4 := spans_in s (whole_mir h' m.symm t4)
  rw [hg] at b1 b2
  rw [hg'] at b3 b4
  obtain ⟨r1, r2⟩ := r
  obtain ⟨r3, r4⟩ := r'
  dsimp only at *
  rw [show r3 = r1 by omega, show r4 = r2 by omega]
theorem feas_mir (h : TOK N most strays calls) (m : Mir N strays calls strays' calls') {w : Nat} (hw : w < 2 ^ calls.length) (hf : Feas N most strays calls (diffN (2 ^ calls.length - 1) w)) : Feas N most strays' calls' (diffN (2 ^ calls'.length - 1) (revB calls.length w)) := by
  obtain ⟨x, y, t⟩ := hf
  refine ⟨_, _, isT_mir h m (fun i hi => ?_) t⟩
  rw [diff_every_bit, diff_every_bit, (revB_of h.cl hw).2.2 i hi, m.cl]
  simp [hi]; omega
theorem few_mir (h : TOK N most strays calls) (m : Mir N strays calls strays' calls') {w s w' s' : Nat} (ho : Outs N most strays calls w s) (ho' : Outs N most strays' calls' w' s') : popc w' ≤ popc w := by
  have hr := revB_of h.cl ho.lt
  have := outs_least ho' (by rw [m.cl]; exact hr.1) (feas_mir h m ho.lt ho.ok)
  omega
theorem more_mir (h : TOK N most strays calls) (m : Mir N strays calls strays' calls') {i : Nat} (hi : i < N) {a b d : Int × Int} {e few w hh : Int} {a' b' d' : Int × Int} {e' few' w' hh' : Int}
    (A : Ans N most strays calls i a b d e few w hh) (A' : Ans N most strays' calls' (N - 1 - i) a' b' d' e' few' w' hh') :
    a' = a ∧ b' = b ∧ d' = d ∧ e' = e ∧ few' = few ∧ hh' = hh := by
  have h' := tok_mir h m
  have hfe : few' = few ∧ hh' = hh := by
    have z : ∀ {strays strays' : List (Int × Int)} {calls calls' : List (Int × Int × Int × Int)}, TOK N most strays calls → Mir N strays calls strays' calls' → Feas N most strays calls 0 → Feas N most strays' calls' 0 := fun h m hf => by
      obtain ⟨x, y, t⟩ := hf
      exact ⟨_, _, isT_mir h m (fun i hi => by rw [Nat.zero_testBit, Nat.zero_testBit]) t⟩
    by_cases h0 : Feas N most strays calls 0
    · obtain ⟨h1, wn, s, rfl, ho⟩ := A.fk h0
      obtain ⟨h2, wn', s', rfl, ho'⟩ := A'.fk (z h m h0)
      have := few_mir h m ho ho'
      have := few_mir h' m.symm ho' ho
      omega
    · have h1 := A.fn h0
      have h2 := A'.fn fun hn => h0 (z h' m.symm hn)
      omega
  by_cases hf : Whole N most strays calls
  · have hf' : Whole N most strays' calls' := by obtain ⟨x, y, t⟩ := hf; exact ⟨_, _, whole_mir h m t⟩
    obtain ⟨h1, h2, h3, h4⟩ := A.ok hf
    obtain ⟨g1, g2, g3, g4⟩ := A'.ok hf'
    refine ⟨spans_mir h m hf (fun x y => ?_) (fun x y => rfl) h2 g2, spans_mir h m hf (fun x y => ?_) (fun x y => pen_mir hi) h3 g3, spans_mir h m hf (fun x y => sum_rev N x) (fun x y => sum_rev N x) h4 g4, by rw [h1, g1], hfe⟩
    · show x (N - 1 - (N - 1 - i)) = x i
      rw [show N - 1 - (N - 1 - i) = i by omega]
    · rw [pen_mir (by omega), show N - 1 - (N - 1 - i) = i by omega]
  · have hf' : ¬ Whole N most strays' calls' := fun hn => hf (by obtain ⟨x, y, t⟩ := hn; exact ⟨_, _, whole_mir h' m.symm t⟩)
    obtain ⟨h1, rfl, rfl, rfl⟩ := A.no hf
    obtain ⟨g1, rfl, rfl, rfl⟩ := A'.no hf'
    exact ⟨rfl, rfl, rfl, by rw [h1, g1], hfe⟩
end
end Go.Proofs.Ytejbglbiefpagaa
