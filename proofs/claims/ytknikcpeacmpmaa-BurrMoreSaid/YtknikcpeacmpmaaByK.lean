/- THE LAW BurrMore: what is answered of one test more, of a bale that is known better, of bales numbered from the other side. -/
import Derived.Test.YtknikcpeacmpmaaByJ
set_option linter.all false
namespace Go.Proofs.Ytknikcpeacmpmaa
open Go Go.RowKit Go.Sh Go.Pv
set_option maxHeartbeats 8000000
set_option maxRecDepth 8000
section
variable {N L U T : Nat} {bales : List (Int × Int)} {tests : List (Int × Bool)}
theorem burr_of (h : BOK N L U T bales tests) : burrB N L U T bales tests = true := by
  have hp := Nat.two_pow_pos bales.length
  have hpN := Nat.two_pow_pos N
  have h1 := h.n1
  have h2 := h.n5
  have h3 := h.lh
  have h4 := h.hn
  have h5 := h.b6
  have h6 := h.tp
  have h7 := h.t6
  unfold burrB headB
  simp only [Bool.and_eq_true, decide_eq_true_eq, inB]
  refine ⟨⟨⟨⟨⟨⟨⟨by omega, by omega⟩, by omega⟩, by omega⟩, h5⟩, by omega, by omega⟩, h7⟩, ?_, ?_⟩
  · rw [all_get (d := (0, 0))]
    intro i hi
    obtain ⟨⟨g1, g2⟩, ⟨g3, g4⟩, g5⟩ := h.ba i hi
    unfold baleB
    simp only [Bool.and_eq_true, decide_eq_true_eq, inB, Int.toNat_natCast]
    exact ⟨⟨⟨g1, by omega⟩, g3, by omega⟩, g5⟩
  · rw [List.all_eq_true]
    intro t ht
    have := h.te t ht
    simp only [Bool.and_eq_true, decide_eq_true_eq]
    omega
theorem sub0_of {a b : Nat} (ha : a < 64) (hb : b < 64) (h : diffN a b = 0) : sub0 a b := fun T' x y => by rw [bin_andNot_nat T' x y (by omega) (by omega), h]; rfl
theorem fst_lt (hB : BOK N L U T bales tests) : ∀ x ∈ (TR N L U bales tests).map (·.1), x < 64 := by
  intro x hx; obtain ⟨y, hy, rfl⟩ := List.mem_map.1 hx; have := (mem_TR_lt hB hy).1; omega
theorem snd_lt (hB : BOK N L U T bales tests) : ∀ x ∈ (TR N L U bales tests).map (·.2), x < 64 := by
  intro x hx; obtain ⟨y, hy, rfl⟩ := List.mem_map.1 hx; exact (mem_TR_lt hB hy).2
/-- Of bales with fewer truths nothing is returned less exactly. -/
theorem less_q {bales' : List (Int × Int)} {tests' : List (Int × Bool)} {i : Nat} (hB : BOK N L U T bales tests) (hB' : BOK N L U T bales' tests') (hl : Less (TR N L U bales' tests') (TR N L U bales tests)) (hi : i = 0 → popc (openS N L U T bales' tests') ≤ popc (openS N L U T bales tests))
    (hne' : TR N L U bales' tests' ≠ []) {a1 a2 : Nat} (ha1 : (seeL ((TR N L U bales tests).map (·.1))).2 = some a1) (ha2 : (seeL ((TR N L U bales tests).map (·.2))).2 = some a2) :
    ∃ m p s t v few fs mo, Q0 (buR N L U T bales' tests') i a1 (seeL ((TR N L U bales tests).map (·.1))).1 a2 (seeL ((TR N L U bales tests).map (·.2))).1 (TR N L U bales tests).length (popc (openS N L U T bales tests)) (diffN T (seeL ((TR N L U bales tests).map (·.2))).1) 0 m p s t v few fs mo := by
  obtain ⟨b1, hb1⟩ := see_some (L := (TR N L U bales' tests').map (·.1)) (by simpa using hne')
  obtain ⟨b2, hb2⟩ := see_some (L := (TR N L U bales' tests').map (·.2)) (by simpa using hne')
  obtain ⟨q1, q2, q3, q4, q5⟩ := ans_some (burr_of hB') hB' hne' hb1 hb2
  have l1 := seeL_lt (fst_lt hB)
  have l2 := seeL_lt (snd_lt hB)
  have l1' := seeL_lt (fst_lt hB')
  have l2' := seeL_lt (snd_lt hB')
  have hT6 : T < 64 := Nat.lt_of_lt_of_le hB.tp (pow64 hB.b6)
  have hle1 := diffN_le T (seeL ((TR N L U bales tests).map (·.2))).1
  have hle2 := diffN_le T (seeL ((TR N L U bales' tests').map (·.2))).1
  have hb := ok_Burr (n := N) (lo := L) (hi := U) (top := T) (bales := bales') (tests := tests')
  rw [burr_of hB'] at hb
  exact ⟨_, _, _, _, _, _, _, _, hb, q1, q2, q3, q4, q5, rfl, hl.len, sub0_of (l1.2 _ ha1) (l1'.2 _ hb1) (hl.all (·.1) ha1 hb1), sub0_of l1'.1 l1.1 (hl.some (·.1)), sub0_of (l2.2 _ ha2) (l2'.2 _ hb2) (hl.all (·.2) ha2 hb2), sub0_of l2'.1 l2.1 (hl.some (·.2)), sub0_of (by omega) (by omega) (pure_less (hl.some (·.2))), hi⟩
theorem turn_zero (n : Nat) : turnN n 0 = 0 := by
  apply Nat.eq_of_testBit_eq
  intro j
  rw [turn_bit]; simp
/-- The two that are looked at: one test more, a bale that is known better. -/
def bqM (bales : List (Int × Int)) (j s' p : Nat) : Nat → List (Int × Int)
  | 0 => bales
  | _ + 1 => bales.set j ((s' : Int), (p : Int))
def tqM (tests : List (Int × Bool)) (j : Nat) (found : Bool) : Nat → List (Int × Bool)
  | 0 => tests ++ [((j : Int), found)]
  | _ + 1 => tests
theorem more_all {j s s' p : Nat} {found : Bool} (hB : BOK N L U T bales tests) (hj : j < bales.length) (hsp : bales.getD j (0, 0) = ((s : Int), (p : Int))) (h1 : diffN s s' = 0) (h2 : diffN s' p = 0) (Z : Zn) (w0 : World) :
    AW ⟨Try.prog, Z, w0, fun _ => False, 463, none, noPan, none, [], true⟩ (rgtN 13 (fnCode Try.f11)) QT6 ⟨[(3, .one (.box 0 0)), (9, .one (.box 2 0)), (10, .one (.box 3 0)), (11, .one (.box 4 0)), (14, .one (.fn 45 [.box 1])), (18, .one (.p (.sl (bales.map row2)))), (19, .one (.p (.sl (tests.map rowB))))], [(0, bxC N L U T bales tests), (1, .box [.p (iP bales.length)]), (2, bxC N L U T bales (tests ++ [((j : Int), found)])), (3, bxC N L U T (bales.set j ((s' : Int), (p : Int))) tests), (4, bxC N L U (turnN bales.length T) bales.reverse (tzT bales.length tests))], 5⟩ := by
  have hBz := turn_ok hB
  have hBy := bale_ok hB hj hsp h2
  have ly := less_bale (N := N) (L := L) (U := U) (tests := tests) hj hsp h1
  have lx := less_test (N := N) (L := L) (U := U) (bales := bales) (tests := tests) ((j : Int), found)
  have hBx : tests.length < 6 → BOK N L U T bales (tests ++ [((j : Int), found)]) := fun h6 => ⟨hB.n1, hB.n5, hB.lh, hB.hn, hB.b6, hB.tp, by simp; omega, hB.ba, fun t ht => by
    rcases List.mem_append.1 ht with ht | ht
    · exact hB.te t ht
    · obtain rfl := List.mem_singleton.1 ht
      exact ⟨Int.natCast_nonneg _, Int.ofNat_lt.2 hj⟩⟩
  have hnx : ¬ tests.length < 6 → QNo (buR N L U T bales (tests ++ [((j : Int), found)])) := fun h6 => by
    have hb := ok_Burr (n := N) (lo := L) (hi := U) (top := T) (bales := bales) (tests := tests ++ [((j : Int), found)])
    have e : burrB N L U T bales (tests ++ [((j : Int), found)]) = false := by
      cases h : burrB N L U T bales (tests ++ [((j : Int), found)]) with
      | false => rfl
      | true =>
        obtain ⟨_, _, _, _, _, _, _, _, hB'⟩ := bok_of h
        have := hB'.t6
        simp at this
        omega
    rw [e] at hb
    exact hb
  have q10 : ∀ {b' t'}, BOK N L U T b' t' → TR N L U b' t' = [] → Q10 (buR N L U T b' t') := fun {b' t'} hb hn => by
    have h35 := ok_Burr (n := N) (lo := L) (hi := U) (top := T) (bales := b') (tests := t')
    rw [burr_of hb] at h35
    obtain ⟨q1, q2, q3, q4, q5⟩ := ans_none (burr_of hb) hb hn
    exact ⟨h35, q1, q2, q3, q4, q5⟩
  by_cases hne : TR N L U bales tests = []
  · obtain ⟨g1, g2, g3, g4, g5⟩ := ans_none (burr_of hB) hB hne
    obtain ⟨z1, z2, z3, z4, z5⟩ := ans_none (burr_of hBz) hBz ((turn_nil hB).2 hne)
    have ht := s_turned45 (n := bales.length) (x := 0) hB.b6 (by omega)
    rw [turn_zero] at ht
    have hnil : ∀ {b' t'}, Less (TR N L U b' t') (TR N L U bales tests) → TR N L U b' t' = [] := fun {b' t'} h => by
      have := h.len
      rw [hne] at this
      exact List.eq_nil_of_length_eq_zero (by simpa using this)
    refine more_tail1 (a := 0) (c := 0) (d := 0) (f := 0) (d' := 0) (f' := 0) (cnt := 0) (many := 0) (x' := 0) (xb := 0) (pu := 0) (e := 10) hB.b6 hB.t6 (bqM bales j s' p) (tqM tests j found) g1 g2 g3 g4 g5 ?_ z1 z2 z3 z4 ht ht Z w0
    intro i hi
    rcases (show i = 0 ∨ i = 1 by omega) with rfl | rfl
    · by_cases h6 : tests.length < 6
      · exact .inr (.inl (q10 (hBx h6) (hnil lx)))
      · exact .inl (hnx h6)
    · exact .inr (.inl (q10 hBy (hnil ly)))
  · obtain ⟨a1, ha1⟩ := see_some (L := (TR N L U bales tests).map (·.1)) (by simpa using hne)
    obtain ⟨a2, ha2⟩ := see_some (L := (TR N L U bales tests).map (·.2)) (by simpa using hne)
    obtain ⟨g1, g2, g3, g4, g5⟩ := ans_some (burr_of hB) hB hne ha1 ha2
    have hnez : TR N L U bales.reverse (tzT bales.length tests) ≠ [] := fun h => hne ((turn_nil hB).1 h)
    obtain ⟨k1, k2⟩ := turn_bales hB hne ha2
    have k0 := turn_mobs hB hne
    obtain ⟨z1, z2, z3, z4, z5⟩ := ans_some (burr_of hBz) hBz hnez (by rw [k0]; exact ha1) k1
    rw [k0] at z1
    rw [k2] at z2
    rw [turn_len hB] at z3
    rw [turn_open hB] at z4
    have l2 := seeL_lt (snd_lt hB)
    have hQ : ∀ i, i < 2 → QNo (buR N L U T (bqM bales j s' p i) (tqM tests j found i)) ∨ Q10 (buR N L U T (bqM bales j s' p i) (tqM tests j found i)) ∨ ∃ m p_1 s_1 t v few fs mo, Q0 (buR N L U T (bqM bales j s' p i) (tqM tests j found i)) i a1 (seeL ((TR N L U bales tests).map (·.1))).1 a2 (seeL ((TR N L U bales tests).map (·.2))).1 (TR N L U bales tests).length (popc (openS N L U T bales tests)) (diffN T (seeL ((TR N L U bales tests).map (·.2))).1) 0 m p_1 s_1 t v few fs mo := by
      intro i hi
      rcases (show i = 0 ∨ i = 1 by omega) with rfl | rfl
      · by_cases h6 : tests.length < 6
        · by_cases hn : TR N L U bales (tests ++ [((j : Int), found)]) = []
          · exact .inr (.inl (q10 (hBx h6) hn))
          · exact .inr (.inr (less_q hB (hBx h6) lx (fun _ => open_less_eq hB (hBx h6) lx) hn ha1 ha2))
        · exact .inl (hnx h6)
      · by_cases hn : TR N L U (bales.set j ((s' : Int), (p : Int))) tests = []
        · exact .inr (.inl (q10 hBy hn))
        · exact .inr (.inr (less_q hB hBy ly (fun h => by omega) hn ha1 ha2))
    have hd := s_turned45 hB.b6 (l2.2 _ ha2)
    have hf := s_turned45 hB.b6 l2.1
    generalize (seeL ((TR N L U bales tests).map (·.1))).1 = c1 at *
    generalize (seeL ((TR N L U bales tests).map (·.2))).1 = c2 at *
    generalize turnN bales.length a2 = d' at *
    generalize turnN bales.length c2 = f' at *
    generalize (TR N L U bales tests).length = cnt at *
    generalize popc (openS N L U T bales tests) = many at *
    generalize openS N L U T bales tests = xb at *
    generalize diffN T c2 = pu at *
    generalize openS N L U (turnN bales.length T) bales.reverse (tzT bales.length tests) = x' at *
    have key := more_tail1 (N := N) (L := L) (U := U) (T := T) (T' := turnN bales.length T) (bales := bales) (bz := bales.reverse) (tests := tests) (tz := tzT bales.length tests) (a := a1) (c := c1) (d := a2) (f := c2) (d' := d') (f' := f') (cnt := cnt) (many := many) (x' := x') (xb := xb) (pu := pu) (e := 0) hB.b6 hB.t6 (bqM bales j s' p) (tqM tests j found) g1 g2 g3 g4 g5 hQ z1 z2 z3 z4 hd hf Z w0
    exact key
end
end Go.Proofs.Ytknikcpeacmpmaa
