/- Texts of the proof, joined. -/
import Derived.Test.YthedkfiebmnghaaGreatKya8
set_option linter.all false
namespace Go.By
open Go Go.Pv Go.Proofs.YthedkfiebmnghaaGreat
def rowN (x : Nat) : List PV := [iP (x : Int)]
def dSD : SD := ⟨(0, 0), (0, 0), (0, 0), [], [], []⟩
structure YD where
 ss : List SD
 F : List Nat
 T : Nat
 L : Nat
namespace YD
variable (y : YD)
def S : Nat := y.ss.length
def sd (i : Nat) : SD := y.ss.getD i dSD
def f (i : Nat) : Nat := y.F.getD i 0
def need (i : Nat) : List Int := (y.sd i).needL
def n (i : Nat) : Nat := tripN (y.need i).length (y.f i) y.L
def D (i : Nat) : List Int := dueL (y.need i) (y.f i) y.L
end YD
structure YOK (y : YD) : Prop where
 n1 : 1 ≤ y.S
 n3 : y.S ≤ 3
 fl : y.F.length = y.S
 t1 : 1 ≤ y.T
 t60 : y.T ≤ 60
 l1 : 1 ≤ y.L
 l5 : y.L ≤ 5
 ok : ∀ i, i < y.S → (y.sd i).ok = true
 f16 : ∀ i, i < y.S → y.f i ≤ 16
def allT (n : Nat → Nat) : Nat → List (Nat × Nat)
 | 0 => []
 | S + 1 => allT n S ++ (List.range (n S)).map fun k => (S, k)
theorem mem_allT {n : Nat → Nat} : ∀ {S s k : Nat}, (s, k) ∈ allT n S ↔ s < S ∧ k < n s
 | 0, s, k => by simp [allT]
 | S + 1, s, k => by
  unfold allT
  rw [List.mem_append, mem_allT (S := S)]
  simp only [List.mem_map, List.mem_range, Prod.mk.injEq]
  constructor
  ·rintro (⟨h1, h2⟩ | ⟨a, h1, rfl, rfl⟩)
   ·exact ⟨by omega, h2⟩
   ·exact ⟨by omega, h1⟩
  ·rintro ⟨h1, h2⟩
   by_cases e : s = S
   ·subst e; exact .inr ⟨k, h2, rfl, rfl⟩
   ·exact .inl ⟨by omega, h2⟩
theorem nodup_part (i j : Nat) : ((List.range j).map fun k => (i, k)).Nodup :=
 List.Pairwise.map _ (fun a b h e => h (by cases e; rfl)) List.nodup_range
theorem allT_nodup {n : Nat → Nat} : ∀ S, (allT n S).Nodup
 | 0 => List.nodup_nil
 | S + 1 => by
  unfold allT
  refine List.nodup_append.2 ⟨allT_nodup S, nodup_part S _, ?_⟩
  rintro ⟨a, b⟩ ha ⟨c, d⟩ hc h
  obtain ⟨k, _, hk⟩ := List.mem_map.1 hc
  have := (mem_allT.1 ha).1
  cases hk
  cases h
  omega
def partT (n : Nat → Nat) (i j : Nat) : List (Nat × Nat) := allT n i ++ (List.range j).map fun k => (i, k)
theorem part_zero (n : Nat → Nat) (i : Nat) : partT n i 0 = allT n i := by simp [partT]
theorem part_succ (n : Nat → Nat) (i j : Nat) : partT n i j ++ [(i, j)] = partT n i (j + 1) := by simp [partT, List.range_succ]
theorem part_not {n : Nat → Nat} {i j : Nat} : (i, j) ∉ partT n i j := by
 intro h
 rcases List.mem_append.1 h with h | h
 ·have := (mem_allT.1 h).1; omega
 ·obtain ⟨k, hk, e⟩ := List.mem_map.1 h
  have := List.mem_range.1 hk
  cases e
  omega
namespace YD
variable (y : YD)
def all : List (Nat × Nat) := allT y.n y.S
def ndR (i : Nat) : List (List PV) := (List.range i).map fun k => [PV.sl ((y.need k).map row1)]
def cells (m : Nat) : List AC := [.p (.sl (y.ss.map SD.row)), .p (.sl (y.F.map rowN)), .p (iP (y.T : Int)), .p (iP (y.L : Int)), .p (.sl (y.ndR y.S)), .raw m]
def mapO (b : Nat) : Obj' := .raw b (.map (toE y.D y.all) y.all.length)
def H (b : Nat) : List (Nat × Obj') := [(0, .box (y.cells 1)), (1, y.mapO b)]
end YD
variable {y : YD}
theorem sd_mem {y : YD} {i : Nat} (hi : i < y.S) : y.ss[i]? = some (y.sd i) := by unfold YD.sd; rw [List.getD_eq_getElem?_getD, List.getElem?_eq_getElem (by exact hi)]; rfl
theorem need_16 (h : YOK y) {i : Nat} (hi : i < y.S) : (y.need i).length ≤ 16 := Nat.le_trans need_len (sheep_16 (h.ok i hi))
theorem n_16 (h : YOK y) {i : Nat} (hi : i < y.S) : y.n i ≤ 16 := by
 have h1 := need_16 h hi
 have hl := h.l1
 unfold YD.n
 rcases Nat.lt_or_ge (tripN (y.need i).length (y.f i) y.L) 17 with h2 | h2
 ·omega
 ·have : (16 : Nat) < tripN (y.need i).length (y.f i) y.L := by omega
  have := (tripN_lt hl).1 this
  have : 16 * 1 ≤ 16 * y.L := Nat.mul_le_mul_left 16 hl
  omega
theorem D_len (i : Nat) : (y.D i).length = y.n i := dueL_len _ _ _
theorem D_sorted (h : YOK y) {i : Nat} (hi : i < y.S) : (y.D i).Pairwise (· ≤ ·) := dueL_sorted (need_sorted (h.ok i hi)) h.l1
theorem D_at {i k : Nat} (hk : k < y.n i) : (y.D i).getD k 0 = (y.need i).getD (y.f i + k * y.L) 0 := dueL_get hk
theorem D_rng (h : YOK y) {i k : Nat} (hi : i < y.S) (hk : k < y.n i) : 0 ≤ (y.D i).getD k 0 ∧ (y.D i).getD k 0 < 600 := by
 rw [D_at hk]
 have := (tripN_lt h.l1).1 hk
 exact ⟨need_ge (h.ok i hi) _ (mem_getD this), need_lt (h.ok i hi) _ (mem_getD this)⟩
theorem due_rng (h : YOK y) {x : Nat × Nat} (hx : x ∈ y.all) : 0 ≤ dueT y.D x ∧ dueT y.D x < 600 := by
 obtain ⟨h1, h2⟩ := mem_allT.1 (show (x.1, x.2) ∈ allT y.n y.S from hx)
 exact D_rng h h1 h2
theorem all_len (h : YOK y) : y.all.length ≤ 48 := by
 have key : ∀ S, S ≤ y.S → (allT y.n S).length ≤ S * 16 := by
  intro S
  induction S with
  | zero => intro _; simp [allT]
  | succ S ih =>
   intro hS
   have h1 := ih (by omega)
   have h2 := n_16 h (i := S) (by omega)
   unfold allT
   rw [List.length_append, List.length_map, List.length_range]
   omega
 have := key y.S (Nat.le_refl _)
 have := h.n3
 unfold YD.all
 omega
def boyB (ss : List SD) (first : List Int) (trip load : Int) : Bool :=
 (inB (ss.length : Int) 1 3 && decide (first.length = ss.length) && inB trip 1 60 && inB load 1 5) && (List.range ss.length).all fun i => (ss.getD i dSD).ok && inB (first.getD i 0) 0 16
def boyR (ss : List SD) (first : List Int) (trip load : Int) : RV := .agg [.sl (ss.map SD.row), .sl (first.map row1), iP trip, iP load]
theorem boy_of {ss : List SD} {first : List Int} {trip load : Int} (h : boyB ss first trip load = true) : ∃ y, YOK y ∧ ss = y.ss ∧ first = y.F.map (fun x : Nat => (x : Int)) ∧ trip = y.T ∧ load = y.L := by
 unfold boyB at h
 simp only [Bool.and_eq_true, decide_eq_true_eq, List.all_eq_true, List.mem_range, inB] at h
 obtain ⟨⟨⟨⟨h1, h2⟩, h3⟩, h4⟩, h5⟩ := h
 have hF : first = (first.map Int.toNat).map (fun x : Nat => (x : Int)) := by
  rw [List.map_map]
  conv => lhs; rw [← List.map_id first]
  refine List.map_congr_left fun x hx => ?_
  obtain ⟨i, hi⟩ := List.mem_iff_getElem?.1 hx
  have hlt := (List.getElem?_eq_some_iff.1 hi).1
  have := (h5 i (by omega)).2
  rw [show first.getD i 0 = x by rw [List.getD_eq_getElem?_getD, hi]; rfl] at this
  show x = ((x.toNat : Nat) : Int)
  omega
 refine ⟨⟨ss, first.map Int.toNat, trip.toNat, load.toNat⟩, ⟨by show 1 ≤ ss.length; omega, by show ss.length ≤ 3; omega, by show (first.map Int.toNat).length = ss.length; rw [List.length_map]; exact h2, by show 1 ≤ trip.toNat; omega, by show trip.toNat ≤ 60; omega, by show 1 ≤ load.toNat; omega, by show load.toNat ≤ 5; omega, fun i hi => (h5 i hi).1, fun i hi => ?_⟩, rfl, hF, by show trip = ((trip.toNat : Nat) : Int); omega, by show load = ((load.toNat : Nat) : Int); omega⟩
 have h6 := (h5 i hi).2
 have hi' : i < first.length := by have : i < ss.length := hi; omega
 show (first.map Int.toNat).getD i 0 ≤ 16
 rw [List.getD_eq_getElem?_getD, List.getElem?_map, List.getElem?_eq_getElem hi']
 rw [List.getD_eq_getElem?_getD, List.getElem?_eq_getElem hi'] at h6
 show (first[i]).toNat ≤ 16
 have h6 : 0 ≤ first[i] ∧ first[i] ≤ 16 := h6
 omega
theorem first_rows (F : List Nat) : (F.map (fun x : Nat => (x : Int))).map row1 = F.map rowN := by rw [List.map_map]; rfl
end Go.By
namespace Go.By
def cntF (l : List (Nat × Nat)) (s : Nat) : Nat := (l.map Prod.fst).count s
theorem cntF_snoc (l : List (Nat × Nat)) (x : Nat × Nat) (s : Nat) : cntF (l ++ [x]) s = cntF l s + if s = x.1 then 1 else 0 := by
 unfold cntF
 rw [List.map_append, List.count_append]
 congr 1
 by_cases h : s = x.1
 ·rw [if_pos h, h]; simp
 ·rw [if_neg h, List.map_cons, List.map_nil, List.count_cons, List.count_nil, if_neg (by simp only [beq_iff_eq]; exact fun (e : x.1 = s) => h e.symm)]
theorem cntF_perm {l l' : List (Nat × Nat)} (h : l.Perm l') (s : Nat) : cntF l s = cntF l' s := (h.map Prod.fst).count_eq s
theorem cntF_all {n : Nat → Nat} : ∀ (S s : Nat), cntF (allT n S) s = if s < S then n s else 0
 | 0, s => by simp [cntF, allT]
 | S + 1, s => by
  have ih := cntF_all (n := n) S s
  unfold cntF at ih ⊢
  unfold allT
  rw [List.map_append, List.count_append, ih, List.map_map]
  have e : (List.map (Prod.fst ∘ fun k => (S, k)) (List.range (n S))).count s = if s = S then n S else 0 := by
   have : List.map (Prod.fst ∘ fun k : Nat => (S, k)) (List.range (n S)) = List.replicate (n S) S := by
    apply List.ext_getElem?
    intro i
    by_cases h : i < n S <;> simp [h]
   rw [this, List.count_replicate]
   by_cases h : s = S
   ·subst h; simp
   ·rw [if_neg h, if_neg]; simp only [beq_iff_eq]; exact fun (e : S = s) => h e.symm
  rw [e]
  by_cases h : s < S
  ·rw [if_pos h, if_neg (by omega), if_pos (by omega)]; rfl
  ·by_cases h2 : s = S
   ·subst h2; rw [if_neg h, if_pos rfl, if_pos (by omega)]; omega
   ·rw [if_neg h, if_neg h2, if_neg (by omega)]
theorem nodup_len {α : Type} [BEq α] [LawfulBEq α] : ∀ (l L : List α), l.Nodup → (∀ x ∈ l, x ∈ L) → l.length ≤ L.length
 | [], L, _, _ => Nat.zero_le _
 | x :: l, L, hn, hs => by
  have hx := hs x List.mem_cons_self
  obtain ⟨h1, h2⟩ := List.nodup_cons.1 hn
  have ih := nodup_len l (L.erase x) h2 fun z hz => (List.mem_erase_of_ne (by rintro rfl; exact h1 hz)).2 (hs z (List.mem_cons_of_mem _ hz))
  rw [List.length_erase_of_mem hx] at ih
  have : 0 < L.length := List.length_pos_of_mem hx
  rw [List.length_cons]
  omega
theorem seen_len {L : List (Nat × Nat)} {seen : Array Nat} {done : List (Nat × Nat)} (h : Seen L seen done) : done.length ≤ L.length := nodup_len done L h.nd h.sub
theorem cntF_le (l : List (Nat × Nat)) (s : Nat) : cntF l s ≤ l.length := by unfold cntF; have := List.count_le_length (a := s) (l := l.map Prod.fst); rwa [List.length_map] at this
end Go.By
