/- StandTakes: plain facts; it returns true. -/
import Derived.Test.YtojbkpnkcpcioaaSvS
set_option linter.all false
namespace Go.Proofs.Ytojbkpnkcpcioaa
open Go Go.RowKit Go.Sh Go.Sh.Stand Go.Pv
set_option maxHeartbeats 2000000
section
variable (m0 m1 m2 : Int × Int) (runs : List (Int × Int)) (sheep : List Int) (looks : List (Int × Int × Int))
def stKM (kind n : Int) : Stand := stM (if kind = 0 then (n, n) else m0) (if kind = 1 then (n, n) else m1) (if kind = 2 then (n, n) else m2) runs sheep looks
theorem mem_all (t : Shearer) : t ∈ allSh (stM m0 m1 m2 runs sheep looks) ↔ (m0.1 ≤ t.1 ∧ t.1 ≤ m0.2) ∧ (m1.1 ≤ t.2.1 ∧ t.2.1 ≤ m1.2) ∧ (m2.1 ≤ t.2.2 ∧ t.2.2 ≤ m2.2) := mem_setT (stM m0 m1 m2 runs sheep looks) rfl t
theorem mem_truths (t : Shearer) (set : Nat) : t ∈ truthsL (stM m0 m1 m2 runs sheep looks) set ↔ t ∈ allSh (stM m0 m1 m2 runs sheep looks) ∧ rightB (stM (0, 0) (0, 0) (0, 0) runs sheep looks) t set = true := by
  unfold truthsL; rw [List.mem_filter]; exact Iff.rfl
theorem mem_stK {kind n : Int} (hk : 0 ≤ kind ∧ kind ≤ 2) (h1 : ([m0, m1, m2].getD kind.toNat (0, 0)).1 ≤ n) (h2 : n ≤ ([m0, m1, m2].getD kind.toNat (0, 0)).2) (t : Shearer) (set : Nat) :
    t ∈ truthsL (stKM m0 m1 m2 runs sheep looks kind n) set ↔ t ∈ truthsL (stM m0 m1 m2 runs sheep looks) set ∧ tk t kind = n := by
  unfold stKM
  rw [mem_truths, mem_truths, mem_all, mem_all]
  rcases (show kind = 0 ∨ kind = 1 ∨ kind = 2 by omega) with rfl | rfl | rfl
  all_goals
    simp at h1 h2
    simp [tk]
    constructor
    · rintro ⟨⟨a, b, c⟩, d⟩; refine ⟨⟨⟨?_, ?_, ?_⟩, d⟩, ?_⟩ <;> omega
    · rintro ⟨⟨⟨a, b, c⟩, d⟩, e⟩; refine ⟨⟨?_, ?_, ?_⟩, d⟩ <;> omega
theorem valid_stK {kind n : Int} (hv : validB (stM m0 m1 m2 runs sheep looks) = true) (hn : 1 ≤ n ∧ n ≤ 40) : validB (stKM m0 m1 m2 runs sheep looks kind n) = true := by
  unfold stKM validB lensB stM at *
  simp only [Bool.and_eq_true, List.all_cons, List.all_nil, and_true] at hv ⊢
  refine ⟨?_, hv.2⟩
  obtain ⟨⟨a, b, c⟩, _⟩ := hv
  have hN : minB (n, n) = true := by simp [minB]; omega
  refine ⟨?_, ?_, ?_⟩ <;> split <;> assumption
theorem ok_takesL {which other : Int} (hwh : 0 ≤ which ∧ which ≤ 255) (hot : 0 ≤ other ∧ other ≤ 255) :
    FunOK Try.prog 7 [stR m0 m1 m2 runs sheep looks, .one (.v (.int .u8 which)), .one (.v (.int .u8 other))] (.one (.one (.v (.bool true)))) := by
  have hfine := ok_fine m0 m1 m2 runs sheep looks
  cases hf : fineB m0 m1 m2 runs sheep looks
  · rw [hf] at hfine
    exact ok_takes_not m0 m1 m2 runs sheep looks hfine
  rw [hf] at hfine
  unfold fineB at hf
  simp only [Bool.and_eq_true, Bool.not_eq_true'] at hf
  have hv := hf.2
  have hs := fit_of_valid (s := stM m0 m1 m2 runs sheep looks) rfl hv
  by_cases h0 : sheep.length = 0
  · exact ok_takes_zero m0 m1 m2 runs sheep looks h0 hfine
  have hk3 : 0 ≤ which.tmod 3 ∧ which.tmod 3 ≤ 2 := by rw [Int.tmod_eq_emod_of_nonneg hwh.1]; omega
  have hno : 0 ≤ other.tmod (sheep.length : Int) ∧ other.tmod (sheep.length : Int) < sheep.length := by
    rw [Int.tmod_eq_emod_of_nonneg hot.1]
    exact ⟨Int.emod_nonneg _ (by omega), Int.emod_lt_of_pos _ (by omega)⟩
  have hmin : ∀ m ∈ [m0, m1, m2], 1 ≤ m.1 ∧ m.1 ≤ m.2 ∧ m.2 ≤ 40 := fun m hm => by have := hs.minb m hm; omega
  generalize hkd : which.tmod 3 = kind at hk3
  generalize hnn : other.tmod (sheep.length : Int) = no at hno
  have hkb : ([m0, m1, m2].getD kind.toNat (0, 0)) ∈ [m0, m1, m2] := by
    rcases (show kind = 0 ∨ kind = 1 ∨ kind = 2 by omega) with rfl | rfl | rfl <;> simp
  have hmk := hmin _ hkb
  generalize hlo : ([m0, m1, m2].getD kind.toNat (0, 0)).1 = lo at hmk
  generalize hhi : ([m0, m1, m2].getD kind.toNat (0, 0)).2 = hi at hmk
  have hkin : inB kind 0 2 = true := by unfold inB; simp; omega
  have hnin : inB no 0 (sheep.length - 1) = true := by unfold inB; simp; omega
  generalize hS : stM m0 m1 m2 runs sheep looks = s at hv hs
  generalize hE : everyB s = ev
  have hev : ∀ n, everyB (stKM m0 m1 m2 runs sheep looks kind n) = ev := fun n => by rw [← hE, ← hS]; rfl
  have hmem : ∀ n, lo ≤ n → n ≤ hi → ∀ t, t ∈ truthsL (stKM m0 m1 m2 runs sheep looks kind n) ev ↔ t ∈ truthsL s ev ∧ tk t kind = n := by
    intro n h1 h2 t
    rw [← hS]
    exact mem_stK m0 m1 m2 runs sheep looks hk3 (by rw [hlo]; exact h1) (by rw [hhi]; exact h2) t ev
  have hrng : ∀ t ∈ truthsL s ev, lo ≤ tk t kind ∧ tk t kind ≤ hi := by
    intro t ht
    have h1 := (List.mem_filter.1 ht).1
    have := tk_mins hs h1 hk3
    rw [← hS] at this
    have e : (stM m0 m1 m2 runs sheep looks).mins = [m0, m1, m2] := rfl
    rw [e, hlo, hhi] at this
    exact this
  let f : Shearer → Int := fun t => ((day s t).getD no.toNat (0, 0)).1
  have hday : ∀ n t, day (stKM m0 m1 m2 runs sheep looks kind n) t = day s t := fun n t => by rw [← hS]; rfl
  have hfr : ∀ t ∈ truthsL s ev, 0 ≤ f t ∧ f t ≤ 1000 := by
    intro t ht
    have h := day_range hs (List.mem_filter.1 ht).1
    have hl : no.toNat < (day s t).length := by rw [day_len, ← hS]; show _ < sheep.length; omega
    have : (day s t).getD no.toNat (0, 0) = (day s t)[no.toNat] := by simp [List.getD, hl]
    show 0 ≤ ((day s t).getD no.toNat (0, 0)).1 ∧ ((day s t).getD no.toNat (0, 0)).1 ≤ 1000
    rw [this]
    exact h _ (List.getElem_mem _)
  let D : Int → (Int × Int) × Int := fun n => ansE (stKM m0 m1 m2 runs sheep looks kind n) true (doneL (stKM m0 m1 m2 runs sheep looks kind n) no)
  have hvn : ∀ n, lo ≤ n → n ≤ hi → validB (stKM m0 m1 m2 runs sheep looks kind n) = true := fun n h1 h2 => valid_stK m0 m1 m2 runs sheep looks (by rw [hS]; exact hv) (by omega)
  have hdl : ∀ n, doneL (stKM m0 m1 m2 runs sheep looks kind n) no = (truthsL (stKM m0 m1 m2 runs sheep looks kind n) ev).map f := by
    intro n
    unfold doneL
    rw [hev]
    refine List.map_congr_left fun t _ => ?_
    show ((day (stKM m0 m1 m2 runs sheep looks kind n) t).getD no.toNat (0, 0)).1 = ((day s t).getD no.toNat (0, 0)).1
    rw [hday]
  have hd : ∀ n : Int, lo ≤ n → n ≤ hi → FunOK Try.prog 13 [stK m0 m1 m2 runs sheep looks kind n, .one (iP no)] (.tup [.agg [iP (D n).1.1, iP (D n).1.2], .one (iP (D n).2)]) := by
    intro n h1 h2
    have h := ok_done (if kind = 0 then (n, n) else m0) (if kind = 1 then (n, n) else m1) (if kind = 2 then (n, n) else m2) runs sheep looks no
    rw [hnin] at h
    exact h
  have h1 := ok_takes m0 m1 m2 runs sheep looks kind
  have h2 := ok_done m0 m1 m2 runs sheep looks no
  have h3 := ok_clash m0 m1 m2 runs sheep looks
  rw [hS] at h1 h2 h3
  rw [hkin] at h1
  rw [hnin] at h2
  have ht1 : takesL s kind = (truthsL s ev).map fun t => tk t kind := by unfold takesL; rw [hE]
  have ht2 : doneL s no = (truthsL s ev).map f := by unfold doneL; rw [hE]
  rw [ht1] at h1
  rw [ht2] at h2
  by_cases hT : truthsL s ev = []
  · rw [ans_none hv rfl (by rw [hT]; rfl)] at h1 h2
    have h3' : ansC s = ((ansC s).1, 0) := by unfold ansC; rw [if_neg (by simp [hv]), if_neg (by rw [hE, hT]; simp)]
    rw [h3'] at h3
    refine ok_takes_none m0 m1 m2 runs sheep looks hwh hot hkd hnn (by omega) hk3 hmin hfine h1 h2 h3 fun n a b => ?_
    rw [hlo] at a
    rw [hhi] at b
    have h := hd n a b
    have : D n = ((0, 0), 10) := by
      show ansE _ true _ = _
      refine ans_none (hvn n a b) rfl ?_
      rw [hdl, List.map_eq_nil_iff]
      refine List.eq_nil_iff_forall_not_mem.2 fun t ht => ?_
      have := ((hmem n a b t).1 ht).1
      rw [hT] at this; cases this
    rw [this] at h
    exact h
  · have hm1 : (truthsL s ev).map (fun t => tk t kind) ≠ [] := by simpa using hT
    have hm2 : (truthsL s ev).map f ≠ [] := by simpa using hT
    rw [ans_some hv rfl hm1] at h1
    rw [ans_some hv rfl hm2] at h2
    have h3' : ansC s = (0, 4) := by unfold ansC; rw [if_neg (by simp [hv]), if_pos (by rw [hE]; exact hT)]
    rw [h3'] at h3
    obtain ⟨⟨tA, hA, eA⟩, ⟨tB, hB, eB⟩, hAB⟩ := hull_map hT fun t => tk t kind
    obtain ⟨⟨uA, kA, fA⟩, ⟨uB, kB, fB⟩, kAB⟩ := hull_map hT f
    have hDn : ∀ n, lo ≤ n → n ≤ hi → (∃ t ∈ truthsL s ev, tk t kind = n) → (D n).2 = 0 ∧ (∃ t ∈ truthsL s ev, tk t kind = n ∧ (D n).1.1 = f t) ∧ (∃ t ∈ truthsL s ev, tk t kind = n ∧ (D n).1.2 = f t) ∧ ∀ t ∈ truthsL s ev, tk t kind = n → (D n).1.1 ≤ f t ∧ f t ≤ (D n).1.2 := by
      intro n a b ⟨t, ht, e⟩
      have hne : truthsL (stKM m0 m1 m2 runs sheep looks kind n) ev ≠ [] := List.ne_nil_of_mem ((hmem n a b t).2 ⟨ht, e⟩)
      have hD : D n = (hull ((truthsL (stKM m0 m1 m2 runs sheep looks kind n) ev).map f), 0) := by
        show ansE _ true _ = _
        rw [hdl]
        exact ans_some (hvn n a b) rfl (by simpa using hne)
      obtain ⟨⟨x, hx, ex⟩, ⟨y, hy, ey⟩, hxy⟩ := hull_map hne f
      rw [hD]
      exact ⟨rfl, ⟨x, ((hmem n a b x).1 hx).1, ((hmem n a b x).1 hx).2, ex⟩, ⟨y, ((hmem n a b y).1 hy).1, ((hmem n a b y).1 hy).2, ey⟩, fun t ht e => hxy t ((hmem n a b t).2 ⟨ht, e⟩)⟩
    have hDz : ∀ n, lo ≤ n → n ≤ hi → ¬ (∃ t ∈ truthsL s ev, tk t kind = n) → D n = ((0, 0), 10) := by
      intro n a b h
      show ansE _ true _ = _
      refine ans_none (hvn n a b) rfl ?_
      rw [hdl, List.map_eq_nil_iff]
      exact List.eq_nil_iff_forall_not_mem.2 fun t ht => h ⟨t, (hmem n a b t).1 ht⟩
    have hlow : ∀ i : Nat, lo + i ≤ hi + 1 → (∀ t ∈ truthsL s ev, tk t kind < lo + i → lowF D lo i ≤ f t ∧ f t ≤ highF D lo i) ∧ ((∃ t ∈ truthsL s ev, lowF D lo i = f t) ∨ lowF D lo i = 1048576) ∧ ((∃ t ∈ truthsL s ev, highF D lo i = f t) ∨ highF D lo i = -1) := by
      intro i
      induction i with
      | zero => intro _; exact ⟨fun t ht h => by have := hrng t ht; omega, .inr rfl, .inr rfl⟩
      | succ i ih =>
        intro hi'
        obtain ⟨a1, a2, a3⟩ := ih (by omega)
        by_cases hex : ∃ t ∈ truthsL s ev, tk t kind = lo + i
        · obtain ⟨b1, ⟨x, hx, ex, fx⟩, ⟨y, hy, ey, fy⟩, b4⟩ := hDn (lo + i) (by omega) (by omega) hex
          have e1 : lowF D lo (i + 1) = min (lowF D lo i) (D (lo + i)).1.1 := by rw [lowF, if_pos b1]
          have e2 : highF D lo (i + 1) = max (highF D lo i) (D (lo + i)).1.2 := by rw [highF, if_pos b1]
          rw [e1, e2]
          refine ⟨fun t ht h => ?_, ?_, ?_⟩
          · by_cases htn : tk t kind = lo + i
            · have := b4 t ht htn; omega
            · have := a1 t ht (by omega); omega
          · rcases (show min (lowF D lo i) (D (lo + i)).1.1 = lowF D lo i ∨ min (lowF D lo i) (D (lo + i)).1.1 = (D (lo + i)).1.1 by omega) with h | h
            · rw [h]; exact a2
            · rw [h]; exact .inl ⟨x, hx, fx⟩
          · rcases (show max (highF D lo i) (D (lo + i)).1.2 = highF D lo i ∨ max (highF D lo i) (D (lo + i)).1.2 = (D (lo + i)).1.2 by omega) with h | h
            · rw [h]; exact a3
            · rw [h]; exact .inl ⟨y, hy, fy⟩
        · have hz := hDz (lo + i) (by omega) (by omega) hex
          have e1 : lowF D lo (i + 1) = lowF D lo i := by rw [lowF, hz, if_neg (by decide)]
          have e2 : highF D lo (i + 1) = highF D lo i := by rw [highF, hz, if_neg (by decide)]
          rw [e1, e2]
          refine ⟨fun t ht h => a1 t ht ?_, a2, a3⟩
          have : tk t kind ≠ lo + i := fun e => hex ⟨t, ht, e⟩
          omega
    obtain ⟨l1, l2, l3⟩ := hlow (hi + 1 - lo).toNat (by omega)
    have hcov : ∀ t ∈ truthsL s ev, lowF D lo (hi + 1 - lo).toNat ≤ f t ∧ f t ≤ highF D lo (hi + 1 - lo).toNat := fun t ht => l1 t ht (by have := hrng t ht; omega)
    refine ok_takes_some m0 m1 m2 runs sheep looks (D := D) hwh hot hkd hnn (by omega) hk3 hmin hlo hhi hfine h1 h2 h3 hd (fun n a b => ?_) (fun n a b => ?_) ?_ ?_
    · by_cases hex : ∃ t ∈ truthsL s ev, tk t kind = n
      · obtain ⟨t, ht, e⟩ := hex
        have := hAB t ht
        rw [e] at this
        exact .inl ⟨(hDn n a b ⟨t, ht, e⟩).1, this.1, this.2⟩
      · refine .inr ⟨by rw [hDz n a b hex], fun e => hex ⟨tA, hA, by rw [e, eA]⟩, fun e => hex ⟨tB, hB, by rw [e, eB]⟩⟩
    · by_cases hex : ∃ t ∈ truthsL s ev, tk t kind = n
      · obtain ⟨b1, ⟨x, hx, ex, fx⟩, ⟨y, hy, ey, fy⟩, b4⟩ := hDn n a b hex
        have := hfr x hx
        have := hfr y hy
        have := b4 x hx ex
        omega
      · rw [hDz n a b hex]; decide
    · show _ = (hull ((truthsL s ev).map f)).1
      have c1 := hcov uA kA
      rw [← fA] at c1
      rcases l2 with ⟨t, ht, e⟩ | e
      · have := kAB t ht
        omega
      · have := hfr uA kA
        rw [← fA] at this
        omega
    · show _ = (hull ((truthsL s ev).map f)).2
      have c1 := hcov uB kB
      rw [← fB] at c1
      rcases l3 with ⟨t, ht, e⟩ | e
      · have := kAB t ht
        omega
      · have := hfr uB kB
        rw [← fB] at this
        omega
end
end Go.Proofs.Ytojbkpnkcpcioaa
