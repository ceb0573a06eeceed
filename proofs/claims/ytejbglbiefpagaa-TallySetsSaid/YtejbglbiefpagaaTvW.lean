/- tally: tables as words, so that the kernel reckons them. Plain. -/
import Derived.Test.YtejbglbiefpagaaTvE
import Derived.Test.YtejbglbiefpagaaTvM
set_option linter.all false
namespace Go.Proofs.Ytejbglbiefpagaa
open Go Go.Pv
def getW (W j : Nat) : Nat := W >>> (64 * j) % 18446744073709551616
def encW : List Nat → Nat
  | [] => 0
  | x :: r => x + 18446744073709551616 * encW r
theorem getW_enc : ∀ {l : List Nat} {j : Nat}, (∀ x ∈ l, x < 18446744073709551616) → j < l.length → getW (encW l) j = l.getD j 0
  | x :: r, 0, h, _ => by
    have := h x (List.mem_cons_self ..)
    show (x + 18446744073709551616 * encW r) >>> 0 % _ = x
    rw [Nat.shiftRight_zero, Nat.add_mul_mod_self_left, Nat.mod_eq_of_lt this]
  | x :: r, j + 1, h, hj => by
    have hx := h x (List.mem_cons_self ..)
    have ih := getW_enc (l := r) (j := j) (fun y hy => h y (List.mem_cons_of_mem _ hy)) (by simpa using hj)
    show (x + 18446744073709551616 * encW r) >>> (64 * (j + 1)) % _ = r.getD j 0
    rw [show 64 * (j + 1) = 64 + 64 * j by omega, Nat.shiftRight_add, show (x + 18446744073709551616 * encW r) >>> 64 = encW r by
      rw [Nat.shiftRight_eq_div_pow, show (2 : Nat) ^ 64 = 18446744073709551616 from rfl, Nat.add_mul_div_left _ _ (by decide), Nat.div_eq_of_lt hx, Nat.zero_add]]
    exact ih
/-- A word that stands for a table. -/
def RepW (W : Nat) (f : Nat → Nat → Int) : Prop := ∀ i k, i < 11 → k < 11 → (getW W (i * 11 + k) : Int) = f i k + 4611686018427387904
def entW (g : Nat → Nat) (a b mo j : Nat) : Nat := cond (Nat.blt (g (j / 11 * 11 + a) + g (b * 11 + j % 11) + mo - 9223372036854775808) (g j)) (g (j / 11 * 11 + a) + g (b * 11 + j % 11) + mo - 9223372036854775808) (g j)
def put1W (W a b mo : Nat) : Nat := cond (Nat.ble (getW W (a * 11 + b)) mo) W (force (encW ((List.range 121).map (entW (getW W) a b mo))) fun w => w)
theorem rep_put1 {W : Nat} {f : Nat → Nat → Int} {a b mo k : Nat} {m : Int} (h : RepW W f) (hb : InB k f) (hk : k ≤ 44) (ha : a < 11) (hb' : b < 11) (hm : -65536 ≤ m ∧ m ≤ 65536) (hmo : (mo : Int) = m + 4611686018427387904) : RepW (put1W W a b mo) (put1 f a b m) := by
  have hfar := inB_far hb hk
  have e1 := h a b ha hb'
  unfold put1W put1
  by_cases hle : f a b ≤ m
  · rw [if_pos hle, show Nat.ble (getW W (a * 11 + b)) mo = true from Nat.ble_eq_true_of_le (by omega)]
    exact h
  · rw [if_neg hle, show Nat.ble (getW W (a * 11 + b)) mo = false from by
      rw [← Bool.not_eq_true]; exact fun e => by have := Nat.le_of_ble_eq_true e; omega]
    rw [cond_false, force_eq]
    have hent : ∀ i c, i < 11 → c < 11 → (entW (getW W) a b mo (i * 11 + c) : Int) = minF f a b m i c + 4611686018427387904 := by
      intro i c hi hc
      have h1 : (i * 11 + c) / 11 = i := by omega
      have h2 : (i * 11 + c) % 11 = c := by omega
      have g1 := h i a hi ha
      have g2 := h b c hb' hc
      have g3 := h i c hi hc
      have d1 := hfar i a hi ha
      have d2 := hfar b c hb' hc
      have d3 := hfar i c hi hc
      unfold minF
      rw [show entW (getW W) a b mo (i * 11 + c) = cond (Nat.blt (getW W (i * 11 + a) + getW W (b * 11 + c) + mo - 9223372036854775808) (getW W (i * 11 + c))) (getW W (i * 11 + a) + getW W (b * 11 + c) + mo - 9223372036854775808) (getW W (i * 11 + c)) by rw [entW, h1, h2]]
      generalize hs : getW W (i * 11 + a) + getW W (b * 11 + c) + mo - 9223372036854775808 = sm
      by_cases hlt : f i a + m + f b c < f i c
      · have hb : Nat.blt sm (getW W (i * 11 + c)) = true := by rw [Nat.blt_eq]; omega
        rw [if_pos hlt, hb, cond_true]
        omega
      · have hb : Nat.blt sm (getW W (i * 11 + c)) = false := by rw [← Bool.not_eq_true, Nat.blt_eq]; omega
        rw [if_neg hlt, hb, cond_false]
        omega
    intro i c hi hc
    have hj : i * 11 + c < 121 := by omega
    rw [getW_enc]
    · rw [List.getD_eq_getElem?_getD, List.getElem?_map, List.getElem?_range hj, Option.map_some, Option.getD_some]
      exact hent i c hi hc
    · intro x hx
      obtain ⟨j, hjm, rfl⟩ := List.mem_map.1 hx
      have hjl := List.mem_range.1 hjm
      have := hent (j / 11) (j % 11) (by omega) (by omega)
      rw [show j / 11 * 11 + j % 11 = j by omega] at this
      have d1 := hfar (j / 11) a (by omega) ha
      have d2 := hfar b (j % 11) hb' (by omega)
      have d3 := hfar (j / 11) (j % 11) (by omega) (by omega)
      unfold minF at this
      split at this <;> omega
    · simpa using hj
def putW (W a b : Nat) (lo hi : Int) : Nat := force (put1W W a b (hi + 4611686018427387904).toNat) fun w => put1W w b a (4611686018427387904 - lo).toNat
theorem rep_put {W : Nat} {f : Nat → Nat → Int} {a b k : Nat} {lo hi : Int} (h : RepW W f) (hb : InB k f) (hk : k ≤ 42) (ha : a < 11) (hb' : b < 11) (hlo : -65536 ≤ lo ∧ lo ≤ 65536) (hhi : -65536 ≤ hi ∧ hi ≤ 65536) : RepW (putW W a b lo hi) (putB f a b lo hi) := by
  unfold putW putB
  rw [force_eq]
  exact rep_put1 (rep_put1 h hb (by omega) ha hb' hhi (by omega)) (inB_put1 hb ha hb' (by omega)) (by omega) hb' ha (by omega) (by omega)
def emptyW : Nat := encW ((List.range 121).map fun j => cond (Nat.beq (j / 11) (j % 11)) 4611686018427387904 4611686018427453440)
theorem rep_empty : RepW emptyW emptyF := by
  intro i k hi hk
  unfold emptyW
  rw [getW_enc]
  · rw [List.getD_eq_getElem?_getD, List.getElem?_map, List.getElem?_range (by omega)]
    show ((cond (Nat.beq ((i * 11 + k) / 11) ((i * 11 + k) % 11)) 4611686018427387904 4611686018427453440 : Nat) : Int) = emptyF i k + 4611686018427387904
    rw [show (i * 11 + k) / 11 = i by omega, show (i * 11 + k) % 11 = k by omega]
    unfold emptyF
    by_cases h : i = k
    · rw [if_pos h, show Nat.beq i k = true by rw [Nat.beq_eq]; exact h]; rfl
    · rw [if_neg h, show Nat.beq i k = false by rw [← Bool.not_eq_true, Nat.beq_eq]; exact h]; rfl
  · intro x hx
    obtain ⟨j, _, rfl⟩ := List.mem_map.1 hx
    cases Nat.beq (j / 11) (j % 11) <;> decide
  · simp; omega
def F0W (N : Nat) (most : Int) : Nat → Nat
  | 0 => emptyW
  | i + 1 => force (F0W N most i) fun w => force (putW w (i + 1) i 0 most) fun w => putW w (posM N (i + 1)) (posM N i) 0 65536
def F1W (N : Nat) (most : Int) (strays : List (Int × Int)) : Nat → Nat
  | 0 => F0W N most N
  | i + 1 => force (F1W N most strays i) fun w => putW w (i + 1) (posM N (i + 1)) (strays.getD i (0, 0)).1 (strays.getD i (0, 0)).2
def F2W (N : Nat) (calls : List (Int × Int × Int × Int)) (set W1 : Nat) : Nat → Nat
  | 0 => W1
  | i + 1 => force (F2W N calls set W1 i) fun w => cond (set.testBit i) (putW w (cntA N (calls.getD i (0, 0, 0, 0))) (cntZ N (calls.getD i (0, 0, 0, 0))) (calls.getD i (0, 0, 0, 0)).2.2.1 (calls.getD i (0, 0, 0, 0)).2.2.2) w
section
variable {N : Nat} {most : Int} {strays : List (Int × Int)} {calls : List (Int × Int × Int × Int)} {set : Nat}
theorem rep_F0 (h : TOK N most strays calls) : ∀ i, i ≤ N → RepW (F0W N most i) (F0 N most i)
  | 0, _ => rep_empty
  | i + 1, hi => by
    have ih := rep_F0 h i (by omega)
    have hb := inB_F0 h i (by omega)
    have := h.n5
    have := h.m0
    have := h.m60
    unfold F0W F0
    rw [force_eq, force_eq]
    exact rep_put (rep_put ih hb (by omega) (by omega) (by omega) (by omega) (by omega)) (inB_putB hb (by omega) (by omega) (by omega) (by omega)) (by omega) (posM_lt h.n5 hi) (posM_lt h.n5 (by omega)) (by omega) (by omega)
theorem rep_F1 (h : TOK N most strays calls) : ∀ i, i ≤ strays.length → RepW (F1W N most strays i) (F1 N most strays i)
  | 0, _ => rep_F0 h N (Nat.le_refl _)
  | i + 1, hi => by
    have ih := rep_F1 h i (by omega)
    have hb := inB_F1 h i (by omega)
    have := h.n5
    have := h.sl
    have hs := span_of (h.st i (by omega))
    unfold F1W F1
    rw [force_eq]
    exact rep_put ih hb (by omega) (by omega) (posM_lt h.n5 (by omega)) (by omega) (by omega)
theorem rep_F2 (h : TOK N most strays calls) {W1 : Nat} (hW : RepW W1 (F1 N most strays strays.length)) : ∀ i, i ≤ calls.length → RepW (F2W N calls set W1 i) (F2 N most strays calls set i)
  | 0, _ => hW
  | i + 1, hi => by
    have ih := rep_F2 h hW i (by omega)
    have hb := inB_F2 h (set := set) i (by omega)
    have := h.n5
    have := h.sl
    have := h.cl
    have hc := call_of (h.ca i (by omega))
    have hl := cnt_lt h.n1 h.n5 (h.ca i (by omega))
    unfold F2W F2
    rw [force_eq]
    cases set.testBit i
    · exact ih
    · exact rep_put ih hb (by omega) hl.1 hl.2 (by omega) (by omega)
end
def tabW (N : Nat) (calls : List (Int × Int × Int × Int)) (set W1 : Nat) : Nat := F2W N calls set W1 calls.length
def valW (W a b : Nat) : Int := (getW W (a * 11 + b) : Int) - 4611686018427387904
def canW (W : Nat) : Bool := (List.range 11).all fun i => Nat.ble 4611686018427387904 (getW W (i * 11 + i))
theorem can_W {W : Nat} {f : Nat → Nat → Int} (h : RepW W f) : canB f 11 = canW W := by
  unfold canB canW
  rw [Bool.eq_iff_iff, List.all_eq_true, List.all_eq_true]
  refine forall_congr' fun i => ?_
  refine imp_congr_right fun hi => ?_
  have hi := List.mem_range.1 hi
  have := h i i hi hi
  rw [decide_eq_true_eq, Nat.ble_eq]
  omega
theorem val_W {W : Nat} {f : Nat → Nat → Int} (h : RepW W f) {a b : Nat} (ha : a < 11) (hb : b < 11) : f a b = valW W a b := by
  have := h a b ha hb
  unfold valW
  omega
/-- Where something first is so. -/
def idxN (p : Nat → Bool) : List Nat → Nat → Option Nat
  | [], _ => none
  | x :: r, i => cond (p x) (some i) (idxN p r (i + 1))
end Go.Proofs.Ytejbglbiefpagaa
