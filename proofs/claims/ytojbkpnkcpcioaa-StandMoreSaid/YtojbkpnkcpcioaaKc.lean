/- Kc: texts joined (StL StN StN2 StO StP StQ StR StS StT StU StV StW StX). -/
import Derived.Test.YtojbkpnkcpcioaaKb
import Derived.Test.YtojbkpnkcpcioaaKa
set_option linter.all false
/- The walk of open. -/
namespace Go.Proofs.Ytojbkpnkcpcioaa
open Go.RowKit Go.Sh Go.Sh.Stand Go.Shelf

theorem info58 : (Try.prog.info? 58).map (fun i => (i.zero, i.size, i.bytes)) = some (some (.agg #[.int .i64 0, .int .i64 0, .int .i64 0]), 3, 24) := by kernel_rfl

/-- What open comes to. -/
def OpenPost (s : Stand) (okI : Bool) (w : World) (e : Ending) (w' : World) : Prop :=
  (validB s = false ∧ e = .panicked (refusal 1) ∧ Below w.heap.size w w') ∨
  (validB s = true ∧ okI = false ∧ e = .panicked (refusal 2) ∧ Below w.heap.size w w') ∨
  (validB s = true ∧ okI = true ∧ ∃ b m, e = .returned (.pointer (some ⟨b, 0, none⟩)) ∧ Below w.heap.size w w' ∧ w.heap.size ≤ b ∧ w.heap.size ≤ m ∧ b ≠ m ∧ Board w' b m s (fun _ => False))

set_option maxRecDepth 100000 in
set_option maxHeartbeats 1000000 in
theorem open_any (a0 b0 a1 b1 a2 b2 : Int) (rv sv lv : Value) (runs : List (Int × Int)) (sheep : List Int) (looks : List (Int × Int × Int)) (gi : Nat) (lbi : Array Value) (okI : Bool) (w : World)
    (hr : Prs w w.heap.size rv runs) (hsh : Ints w w.heap.size sv sheep) (hl : Trs w w.heap.size lv looks) (eq : ∀ args w, (callFunc gi args).run Try.prog w = .ok (.enter gi args) w)
    (hi : ∀ A b m, Below w.heap.size w A → Board A b m ⟨[(a0, b0), (a1, b1), (a2, b2)], runs, sheep, looks⟩ (fun _ => False) → validB ⟨[(a0, b0), (a1, b1), (a2, b2)], runs, sheep, looks⟩ = true →
      Calls Try.prog gi (#[.pointer (some ⟨b, 0, none⟩)] ++ lbi) A fun e B => e = .returned (.bool okI) ∧ Below A.heap.size A B) :
    Calls Try.prog 41 #[.agg #[.int .i64 a0, .int .i64 b0, .int .i64 a1, .int .i64 b1, .int .i64 a2, .int .i64 b2, rv, sv, lv], .func (.func gi) #[] lbi] w (OpenPost ⟨[(a0, b0), (a1, b1), (a2, b2)], runs, sheep, looks⟩ okI w) := by
  obtain ⟨s, hs⟩ : ∃ s : Stand, s = ⟨[(a0, b0), (a1, b1), (a2, b2)], runs, sheep, looks⟩ := ⟨_, rfl⟩
  rw [← hs] at hi ⊢
  obtain ⟨W1, hW1⟩ : ∃ x, w.alloc (.cells #[.int .i64 a0, .int .i64 b0, .int .i64 a1, .int .i64 b1, .int .i64 a2, .int .i64 b2, rv, sv, lv] 29) = x := ⟨_, rfl⟩
  have hb1 : Below w.heap.size w W1 := by rw [← hW1]; exact box_below _ _
  have HI := Lib.hid hi
  have HS := Lib.hid hs
  have HR := Lib.hid hr
  have HSH := Lib.hid hsh
  have HL := Lib.hid hl
  have HB1 := Lib.hid hb1
  obtain ⟨rao, rcap, rfl, hrl, _⟩ := hr
  obtain ⟨sao, scap, rfl, hsl, _⟩ := hsh
  obtain ⟨lao, lcap, rfl, hll, _⟩ := hl
  clear hi hb1 hs
  have hsz1 : W1.heap.size = w.heap.size + 1 := by rw [← hW1]; simp
  have c6 : W1.cell? ⟨w.heap.size, 6, none⟩ = some (.slice rao runs.length rcap) := by rw [← hW1]; simp [go_sem]
  have c7 : W1.cell? ⟨w.heap.size, 7, none⟩ = some (.slice sao sheep.length scap) := by rw [← hW1]; simp [go_sem]
  have c8 : W1.cell? ⟨w.heap.size, 8, none⟩ = some (.slice lao looks.length lcap) := by rw [← hW1]; simp [go_sem]
  have d0 : W1.cell? ⟨w.heap.size, 0, none⟩ = some (.int .i64 a0) := by rw [← hW1]; simp [go_sem]
  have d1 : W1.cell? ⟨w.heap.size, 1, none⟩ = some (.int .i64 b0) := by rw [← hW1]; simp [go_sem]
  have d2 : W1.cell? ⟨w.heap.size, 2, none⟩ = some (.int .i64 a1) := by rw [← hW1]; simp [go_sem]
  have d3 : W1.cell? ⟨w.heap.size, 3, none⟩ = some (.int .i64 b1) := by rw [← hW1]; simp [go_sem]
  have d4 : W1.cell? ⟨w.heap.size, 4, none⟩ = some (.int .i64 a2) := by rw [← hW1]; simp [go_sem]
  have d5 : W1.cell? ⟨w.heap.size, 5, none⟩ = some (.int .i64 b2) := by rw [← hW1]; simp [go_sem]
  have HC : Hid ((W1.cell? ⟨w.heap.size, 0, none⟩ = some (.int .i64 a0) ∧ W1.cell? ⟨w.heap.size, 1, none⟩ = some (.int .i64 b0) ∧ W1.cell? ⟨w.heap.size, 2, none⟩ = some (.int .i64 a1) ∧ W1.cell? ⟨w.heap.size, 3, none⟩ = some (.int .i64 b1) ∧ W1.cell? ⟨w.heap.size, 4, none⟩ = some (.int .i64 a2) ∧ W1.cell? ⟨w.heap.size, 5, none⟩ = some (.int .i64 b2)) ∧
      W1.cell? ⟨w.heap.size, 6, none⟩ = some (.slice rao runs.length rcap) ∧ W1.cell? ⟨w.heap.size, 7, none⟩ = some (.slice sao sheep.length scap) ∧ W1.cell? ⟨w.heap.size, 8, none⟩ = some (.slice lao looks.length lcap)) := ⟨⟨d0, d1, d2, d3, d4, d5⟩, c6, c7, c8⟩
  go_enter Try.func41, Try.ntmps41
  go_wp2
  clear hW1
  go_loopw [16] (fun i wr => ∃ k : Nat, k ≤ 3 ∧ i = .int .i64 k ∧ Hid (([(a0, b0), (a1, b1), (a2, b2)].take k).all minB = true) ∧ Below W1.heap.size W1 wr) (fun i _ => 3 - (intOf i).toNat)
  case atStart => exact ⟨0, by omega, rfl, Lib.hid rfl, Below.refl _ _⟩
  case round =>
    obtain ⟨k, hk, rfl, HA, hbw⟩ := hrel
    have HBW := Lib.hid hbw
    clear hbw
    have hmn : s.mins = [(a0, b0), (a1, b1), (a2, b2)] := by rw [HS.out]
    by_cases hk3 : k < 3
    · have cl : ((k : Nat) : Int) < 3 := by omega
      obtain ⟨⟨a, b⟩, hix, hgk⟩ : ∃ p : Int × Int, (∀ w, (Instr.index 24 (.agg #[.int .i64 a0, .int .i64 b0, .int .i64 a1, .int .i64 b1, .int .i64 a2, .int .i64 b2]) (.int .i64 k)).run Try.prog w = .ok (.agg #[.int .i64 p.1, .int .i64 p.2]) w) ∧ [(a0, b0), (a1, b1), (a2, b2)][k]? = some p := by
        obtain rfl | rfl | rfl : k = 0 ∨ k = 1 ∨ k = 2 := by omega
        · exact ⟨(a0, b0), fun _ => by kernel_rfl, rfl⟩
        · exact ⟨(a1, b1), fun _ => by kernel_rfl, rfl⟩
        · exact ⟨(a2, b2), fun _ => by kernel_rfl, rfl⟩
      have HGK := Lib.hid hgk
      clear hgk
      have hnx : minB (a, b) = true → ([(a0, b0), (a1, b1), (a2, b2)].take (k + 1)).all minB = true := by
        intro h
        have hkl : k < [(a0, b0), (a1, b1), (a2, b2)].length := by simpa using hk3
        rw [List.take_succ_eq_append_getElem hkl, List.all_append, HA.out]
        have : [(a0, b0), (a1, b1), (a2, b2)][k] = (a, b) := by have := HGK.out; rw [List.getElem?_eq_getElem hkl] at this; exact Option.some.inj this
        rw [this]; simp [h]
      have hno : minB (a, b) = false → validB s = false := by
        intro h
        unfold validB
        rw [hmn, show [(a0, b0), (a1, b1), (a2, b2)].all minB = false from List.all_eq_false.2 ⟨(a, b), List.mem_of_getElem? HGK.out, by simp [h]⟩]
        rfl
      have HNX := Lib.hid hnx
      have HNO := Lib.hid hno
      clear hnx hno hmn
      cases h1 : spanB a b 1 40
      · have hv := HNO.out (by unfold minB; unfold spanB at h1; rw [h1]; rfl)
        have HV := Lib.hid hv
        clear hv
        go_wp2_with (first
          | (go_at_call 77; refine (isSpan_any _ _ _ _ _).mono ?_; rintro e w5 ⟨rfl, hb5⟩; rw [h1]; have HB5 := Lib.hid hb5; clear hb5)
          | (go_at_call 67; refine (ask_no 1 _).mono ?_; rintro e w6 ⟨rfl, rfl⟩))
        refine ⟨rfl, .inl ⟨HV.out, rfl, ?_⟩⟩
        exact below_trans' (below_trans' (below_trans' HB1.out HBW.out) (box_below _ _)) HB5.out
      · have hab : 1 ≤ a ∧ a ≤ b ∧ b ≤ 40 := by unfold spanB at h1; simpa [and_assoc] using h1
        by_cases h2 : b - a ≤ 4
        · have hv := HNX.out (by unfold minB; unfold spanB at h1; rw [h1]; simpa using h2)
          have HV := Lib.hid hv
          clear hv
          go_wp2_with (first
            | (go_at_call 77; refine (isSpan_any _ _ _ _ _).mono ?_; rintro e w5 ⟨rfl, hb5⟩; rw [h1]
               have x0 : w5.cell? ⟨wr.heap.size, 0, none⟩ = some (.int .i64 a) := cell_old hb5 (by simp [go_sem])
               have x1 : w5.cell? ⟨wr.heap.size, 1, none⟩ = some (.int .i64 b) := cell_old hb5 (by simp [go_sem])
               have HB5 := Lib.hid hb5; clear hb5)
            | (go_at_call 67; refine (ask_ok 1 _).mono ?_; rintro e w6 ⟨rfl, rfl⟩))
          go_roundw
          case rel => exact ⟨k + 1, by omega, by go_num, HV, below_trans HBW.out (below_trans' (box_below _ _) HB5.out) HBW.out.size⟩
          case measure => simp [intOf]; omega
        · have hv := HNO.out (by unfold minB; unfold spanB at h1; rw [h1]; simpa using h2)
          have HV := Lib.hid hv
          clear hv
          have h2' : decide (b - a ≤ 4) = false := by simpa using h2
          go_wp2_with (first
            | (go_at_call 77; refine (isSpan_any _ _ _ _ _).mono ?_; rintro e w5 ⟨rfl, hb5⟩; rw [h1]
               have x0 : w5.cell? ⟨wr.heap.size, 0, none⟩ = some (.int .i64 a) := cell_old hb5 (by simp [go_sem])
               have x1 : w5.cell? ⟨wr.heap.size, 1, none⟩ = some (.int .i64 b) := cell_old hb5 (by simp [go_sem])
               have HB5 := Lib.hid hb5; clear hb5)
            | (go_at_call 67; refine (ask_no 1 _).mono ?_; rintro e w6 ⟨rfl, rfl⟩))
          refine ⟨rfl, .inl ⟨HV.out, rfl, ?_⟩⟩
          exact below_trans' (below_trans' (below_trans' HB1.out HBW.out) (box_below _ _)) HB5.out
    · have hk' : k = 3 := by omega
      subst hk'
      have HA3 : Hid (s.mins.all minB = true) := Lib.hid (by rw [hmn]; exact HA.out)
      have cl : ¬ ((3 : Nat) : Int) < 3 := by omega
      go_upto_region 6 with (fail)
      have e6 := cell_old HBW.out c6
      have e7 := cell_old HBW.out c7
      have e8 := cell_old HBW.out c8
      have hbl : w.heap.size < wr.heap.size := by have := HBW.out.size; omega
      have hle : lensB s = ((inB runs.length 1 4 && decide ((sheep.length : Int) ≤ 16)) && decide ((looks.length : Int) ≤ 4)) := by rw [HS.out]; rfl
      have hnoL : lensB s = false → validB s = false := fun h => by unfold validB; rw [h]; simp
      have HLE := Lib.hid hle
      have HNL := Lib.hid hnoL
      have HBW0 : Hid (Below w.heap.size w wr) := below_trans' HB1.out HBW.out
      clear hle hnoL hmn c6 c7 c8 d0 d1 d2 d3 d4 d5 HA
      cases h3 : inB runs.length 1 4
      · have hv := HNL.out (by rw [HLE.out, h3]; rfl)
        have HV := Lib.hid hv
        clear hv
        go_wp2_with (first
          | (go_at_call 78; refine (within_any _ _ _ _).mono ?_; rintro e w' ⟨rfl, rfl⟩; rw [h3])
          | (go_at_call 67; refine (ask_no 1 _).mono ?_; rintro e w6 ⟨rfl, rfl⟩))
        exact ⟨rfl, .inl ⟨HV.out, rfl, HBW0.out⟩⟩
      · by_cases h4 : (sheep.length : Int) ≤ 16
        · by_cases h5 : (looks.length : Int) ≤ 4
          · have hrr : 1 ≤ runs.length ∧ runs.length ≤ 4 := by unfold inB at h3; simp at h3; omega
            go_upto_region 7 with (first
              | (go_at_call 78; refine (within_any _ _ _ _).mono ?_; rintro e w' ⟨rfl, rfl⟩; rw [h3])
              | (go_at_call 67; refine (ask_ok 1 _).mono ?_; rintro e w6 ⟨rfl, rfl⟩))
            have HLT : Hid (lensB s = true) := Lib.hid (by rw [HLE.out, h3]; simp; omega)
            have hnoR : runsB s.runs 0 = false → validB s = false := fun h => by unfold validB; rw [h]; simp
            have hsr : s.runs = runs := by rw [HS.out]
            rw [hsr] at hnoR
            have HNR := Lib.hid hnoR
            have HSR := Lib.hid hsr
            clear hnoR hsr HNL HLE
            go_wp2
            go_loopw [7, 51] (fun bell i wq => ∃ (k : Nat) (bl : Int), k ≤ runs.length ∧ i = .int .i64 k ∧ bell = .int .i64 bl ∧ (0 ≤ bl ∧ bl ≤ 600) ∧ Hid (runsB (runs.drop k) bl = runsB runs 0) ∧ Below wr.heap.size wr wq) (fun _ i _ => runs.length - (intOf i).toNat)
            case atStart => exact ⟨0, 0, by omega, rfl, rfl, by omega, Lib.hid rfl, Below.refl _ _⟩
            case round =>
              obtain ⟨k, bl, hk, rfl, rfl, hbl2, HRB, hbq⟩ := hrel
              have HBQ0 : Hid (Below w.heap.size w wr) := below_trans' HBW0.out hbq
              have HBQ := Lib.hid hbq
              clear hbq
              by_cases hlt : k < runs.length
              · have cl : ((k : Nat) : Int) < ((runs.length : Nat) : Int) := by omega
                obtain ⟨_, _, hre, _, hrow⟩ := HR.out
                cases hre
                obtain ⟨b3, off, rfl, hbl3, hx⟩ := hrow (by intro e; rw [e] at hlt; simp at hlt)
                obtain ⟨p, hp⟩ : ∃ p, runs[k] = p := ⟨_, rfl⟩
                obtain ⟨st, be⟩ := p
                have r0 : wr.cell? ⟨b3, off + k * 2, none⟩ = some (.int .i64 st) := cell_old HBQ0.out (by simpa using hx k (st, be) (by simp [hlt, hp]) 0 _ rfl)
                have r1 : wr.cell? ⟨b3, off + k * 2 + 1, none⟩ = some (.int .i64 be) := cell_old HBQ0.out (by simpa using hx k (st, be) (by simp [hlt, hp]) 1 _ rfl)
                have hstep : runsB runs 0 = ((inB st bl 600 && inB be (st + 1) 600) && runsB (runs.drop (k + 1)) be) := by
                  rw [← HRB.out, List.drop_eq_getElem_cons hlt, hp]; rfl
                have HST := Lib.hid hstep
                clear hstep hx hrow hp
                cases h6 : inB st bl 600
                · have HV : Hid (validB s = false) := Lib.hid (HNR.out (by rw [HST.out, h6]; rfl))
                  go_wp2_with (first
                    | (go_at_call 78; refine (within_any _ _ _ _).mono ?_; rintro e w' ⟨rfl, rfl⟩; rw [h6])
                    | (go_at_call 67; refine (ask_no 1 _).mono ?_; rintro e w6 ⟨rfl, rfl⟩))
                  exact ⟨rfl, .inl ⟨HV.out, rfl, below_trans' HBQ0.out (box_below _ _)⟩⟩
                · have hst : bl ≤ st ∧ st ≤ 600 := by unfold inB at h6; simpa using h6
                  cases h7 : inB be (st + 1) 600
                  · have HV : Hid (validB s = false) := Lib.hid (HNR.out (by rw [HST.out, h7]; simp))
                    go_wp2_with (first
                      | (go_at_call 78; refine (within_any _ _ _ _).mono ?_; rintro e w' ⟨rfl, rfl⟩; first | rw [h6] | rw [h7])
                      | (go_at_call 67; refine (ask_no 1 _).mono ?_; rintro e w6 ⟨rfl, rfl⟩))
                    exact ⟨rfl, .inl ⟨HV.out, rfl, below_trans' HBQ0.out (box_below _ _)⟩⟩
                  · have hbe : st + 1 ≤ be ∧ be ≤ 600 := by unfold inB at h7; simpa using h7
                    have HRN : Hid (runsB (runs.drop (k + 1)) be = runsB runs 0) := Lib.hid (by rw [HST.out, h6, h7]; rfl)
                    go_wp2_with (first
                      | (go_at_call 78; refine (within_any _ _ _ _).mono ?_; rintro e w' ⟨rfl, rfl⟩; first | rw [h6] | rw [h7])
                      | (go_at_call 67; refine (ask_ok 1 _).mono ?_; rintro e w6 ⟨rfl, rfl⟩))
                    go_roundw
                    case rel => exact ⟨k + 1, be, by omega, by go_num, rfl, by omega, HRN, below_trans' HBQ.out (box_below _ _)⟩
                    case measure => simp [intOf]; omega
              · have cl : ¬ ((k : Nat) : Int) < ((runs.length : Nat) : Int) := by omega
                have HRT : Hid (runsB runs 0 = true) := Lib.hid (by rw [← HRB.out, List.drop_eq_nil_of_le (by omega)]; rfl)
                go_upto_region 14 with (fail)
                have g6 := cell_old HBQ.out e6
                have g7 := cell_old HBQ.out e7
                have g8 := cell_old HBQ.out e8
                have HSK := Lib.hid (HSH.out.later HBQ0.out)
                have hnoS : sheep.all (fun k => inR k 0 2) = false → validB s = false := fun h => by unfold validB; rw [HS.out]; simp only; rw [h]; simp
                have HNS := Lib.hid hnoS
                clear hnoS e6 e7 e8
                cases h8 : sheep.all (fun k => inB k 0 2)
                · have HV : Hid (validB s = false) := Lib.hid (HNS.out h8)
                  go_wp2_with (first
                    | (go_at_call 79; refine (contains80_any _ _ _ HSK.out).mono ?_; rintro e w' ⟨rfl, rfl⟩; rw [h8])
                    | (go_at_call 67; refine (ask_no 1 _).mono ?_; rintro e w6 ⟨rfl, rfl⟩))
                  exact ⟨rfl, .inl ⟨HV.out, rfl, HBQ0.out⟩⟩
                · have HSO : Hid (sheep.all (fun k => inR k 0 2) = true) := Lib.hid h8
                  obtain ⟨i0, hi0, hz0, hz1, hz2⟩ := info_parts info58
                  have hlk : looks.length ≤ 4 := by omega
                  go_upto_region 16 with (first
                    | (go_at_call 79; refine (contains80_any _ _ _ HSK.out).mono ?_; rintro e w' ⟨rfl, rfl⟩; rw [h8])
                    | (go_at_call 67; refine (ask_ok 1 _).mono ?_; rintro e w6 ⟨rfl, rfl⟩)
                    | (at_make; refine wpList_make_full _ rfl _ _ 27 rfl wr.heap.size 58 i0 (.agg #[.int .i64 0, .int .i64 0, .int .i64 0]) 3 Try.underlying27 hi0 hz0 hz1 .i64 .i64 _ _ looks.length rfl rfl rfl rfl (by rw [hz2]; omega) (by unfold maxLen; omega) (Nat.le_refl _) ?_; intro w4 hown4 hgrow4))
                  have hcur : ∃ cur, w4.heap[wr.heap.size]? = some (.cells cur 58 (0, 0)) ∧ cur.size = looks.length * 3 := by
                    rcases hown4.2 with ⟨h, _⟩ | ⟨g, cap, cur, hv, hb, hh, hnc, hcm, hcs, htk⟩
                    · cases h
                    · cases hv; exact ⟨cur, hh, by rw [hcs]⟩
                  obtain ⟨cur, hcur1, hcur2⟩ := hcur
                  have hb4 : Below wr.heap.size wr w4 := (Below.refl _ _).grown hgrow4 (Nat.le_refl _) (fun k e => by cases e)
                  have HB4 := Lib.hid hb4
                  have HLK : Hid (Trs w4 w4.heap.size (.slice lao looks.length lcap) looks) := Lib.hid ((HL.out.later HBQ0.out).later hb4)
                  have j6 := cell_old hb4 g6
                  have j7 := cell_old hb4 g7
                  have j8 := cell_old hb4 g8
                  clear hown4 hgrow4 hb4 g6 g7 g8
                  go_wp2_with (refine wpList_copy_rows (enc := enc3) (size := 3) (fun _ => rfl) (by intro x v hv; simp [enc3] at hv; rcases hv with rfl | rfl | rfl <;> rfl) (by decide) rfl _ _ 27 27 rfl 58 Try.underlying27 (by rw [hi0]; simp [hz1]) wr.heap.size (.slice lao looks.length lcap) looks rfl rfl HLK.out cur 58 hcur1 hcur2 wr.heap.size w4 (Below.refl _ _) (Nat.le_refl _) ?_; intro w5 hown5 hb5)
                  have hb45 : Below wr.heap.size wr w5 := HB4.out.trans hb5
                  have HB45 : Hid (Below w.heap.size w w5) := below_trans' HBQ0.out hb45
                  have HO5 : Hid (Trs w5 w5.heap.size (.slice (some ⟨wr.heap.size, 0, none⟩) looks.length looks.length) looks) := hown5
                  have HB15 : Hid (Below W1.heap.size W1 w5) := below_trans' (below_trans' HBW.out HBQ.out) hb45
                  clear hb5 hown5 hb45 j6 j7 j8 hcur1 hcur2
                  obtain ⟨gB, hgB⟩ : ∃ g, wr.heap.size = g := ⟨_, rfl⟩
                  rw [hgB] at HO5 ⊢
                  clear hgB
                  go_loopw [86] (fun i wq => ∃ (k : Nat), k ≤ looks.length ∧ i = .int .i64 k ∧ Hid ((looks.take k).all lookB = true) ∧ Below w5.heap.size w5 wq) (fun i _ => looks.length - (intOf i).toNat)
                  case atStart => exact ⟨0, by omega, rfl, Lib.hid rfl, Below.refl _ _⟩
                  case round =>
                    obtain ⟨k, hk, rfl, HLB, hbz⟩ := hrel
                    have HBZ := Lib.hid hbz
                    clear hbz
                    by_cases hlt : k < looks.length
                    · have cl : ((k : Nat) : Int) < ((looks.length : Nat) : Int) := by omega
                      obtain ⟨_, _, hre, _, hrow⟩ := HO5.out
                      cases hre
                      obtain ⟨b3, off, hre2, hbl3, hx⟩ := hrow (by intro e; rw [e] at hlt; simp at hlt)
                      cases hre2
                      obtain ⟨p, hp⟩ : ∃ p, looks[k] = p := ⟨_, rfl⟩
                      obtain ⟨mi, lo, hi'⟩ := p
                      have r0 := cell_old HBZ.out (hx k (mi, lo, hi') (by simp [hlt, hp]) 0 _ rfl)
                      have r1 := cell_old HBZ.out (hx k (mi, lo, hi') (by simp [hlt, hp]) 1 _ rfl)
                      have r2 := cell_old HBZ.out (hx k (mi, lo, hi') (by simp [hlt, hp]) 2 _ rfl)
                      simp only [Nat.zero_add, Nat.add_zero] at r0 r1 r2
                      have hmem : (mi, lo, hi') ∈ looks := by rw [← hp]; exact List.getElem_mem _
                      have hnoK : lookB (mi, lo, hi') = false → validB s = false := by
                        intro h
                        have : looks.all lookB = false := List.all_eq_false.2 ⟨_, hmem, by simp [h]⟩
                        unfold validB; rw [HS.out]; simp only; rw [this]; simp
                      have hyes : lookB (mi, lo, hi') = true → (looks.take (k + 1)).all lookB = true := by
                        intro h
                        rw [List.take_succ_eq_append_getElem hlt, List.all_append, HLB.out, hp]; simp [h]
                      have HNK := Lib.hid hnoK
                      have HYK := Lib.hid hyes
                      clear hnoK hyes hx hrow hp hmem
                      cases h9 : inB mi 0 600
                      · have HV : Hid (validB s = false) := Lib.hid (HNK.out (by unfold lookB; rw [show inR mi 0 600 = inB mi 0 600 from rfl, h9]; rfl))
                        go_wp2_with (first
                          | (go_at_call 78; refine (within_any _ _ _ _).mono ?_; rintro e w' ⟨rfl, rfl⟩; rw [h9])
                          | (go_at_call 67; refine (ask_no 1 _).mono ?_; rintro e w6 ⟨rfl, rfl⟩))
                        exact ⟨rfl, .inl ⟨HV.out, rfl, below_trans' (below_trans' HB45.out HBZ.out) (box_below _ _)⟩⟩
                      · cases h10 : spanB lo hi' 0 16
                        · have HV : Hid (validB s = false) := Lib.hid (HNK.out (by unfold lookB; unfold spanB at h10; rw [h10]; simp))
                          go_wp2_with (first
                            | (go_at_call 78; refine (within_any _ _ _ _).mono ?_; rintro e w' ⟨rfl, rfl⟩; rw [h9])
                            | (go_at_call 77; refine (isSpan_any _ _ _ _ _).mono ?_; rintro e w7 ⟨rfl, hb7⟩; rw [h10]; have HB7 := Lib.hid hb7; clear hb7)
                            | (go_at_call 67; refine (ask_no 1 _).mono ?_; rintro e w6 ⟨rfl, rfl⟩))
                          exact ⟨rfl, .inl ⟨HV.out, rfl, below_trans' (below_trans' (below_trans' HB45.out HBZ.out) (box_below _ _)) HB7.out⟩⟩
                        · have HV := Lib.hid (HYK.out (by unfold lookB; unfold spanB at h10; rw [show inR mi 0 600 = inB mi 0 600 from rfl, h9, h10]; rfl))
                          go_wp2_with (first
                            | (go_at_call 78; refine (within_any _ _ _ _).mono ?_; rintro e w' ⟨rfl, rfl⟩; rw [h9])
                            | (go_at_call 77; refine (isSpan_any _ _ _ _ _).mono ?_; rintro e w7 ⟨rfl, hb7⟩; rw [h10]; have HB7 := Lib.hid hb7; clear hb7)
                            | (go_at_call 67; refine (ask_ok 1 _).mono ?_; rintro e w6 ⟨rfl, rfl⟩))
                          go_roundw
                          case rel => exact ⟨k + 1, by omega, by go_num, HV, below_trans' (below_trans' HBZ.out (box_below _ _)) HB7.out⟩
                          case measure => simp [intOf]; omega
                    · have cl : ¬ ((k : Nat) : Int) < ((looks.length : Nat) : Int) := by omega
                      have hkk : k = looks.length := by omega
                      have HVB : Hid (validB s = true) := Lib.hid (by
                        have h1 := HLB.out
                        rw [hkk, List.take_length] at h1
                        unfold validB
                        rw [HA3.out, HLT.out, HSR.out, HRT.out, HS.out]
                        simp only
                        rw [HSO.out, h1]; rfl)
                      have hb1z : Below W1.heap.size W1 wr := below_trans' HB15.out HBZ.out
                      obtain ⟨⟨z0, z1, z2, z3, z4, z5⟩, z6, z7, z8⟩ := HC.out
                      replace z0 := cell_old hb1z z0
                      replace z1 := cell_old hb1z z1
                      replace z2 := cell_old hb1z z2
                      replace z3 := cell_old hb1z z3
                      replace z4 := cell_old hb1z z4
                      replace z5 := cell_old hb1z z5
                      replace z6 := cell_old hb1z z6
                      replace z7 := cell_old hb1z z7
                      replace z8 := cell_old hb1z z8
                      have hmm := @run_makeMap Try.prog
                      clear hb1z
                      go_upto_region 24 with (fail)
                      obtain ⟨WF, hWF⟩ : ∃ x, (wr.alloc (Obj.map #[] 0)).alloc (Obj.cells #[.int .i64 a0, .int .i64 b0, .int .i64 a1, .int .i64 b1, .int .i64 a2, .int .i64 b2, .slice rao runs.length rcap, .slice sao sheep.length scap, .slice (some ⟨gB, 0, none⟩) looks.length looks.length, .map (some wr.heap.size)] 120) = x := ⟨_, rfl⟩
                      rw [hWF]
                      have hbF : Below wr.heap.size wr WF := by rw [← hWF]; exact below_two _ _ _
                      have hb5F : Below w5.heap.size w5 WF := below_trans' HBZ.out hbF
                      have hb0F : Below w.heap.size w WF := below_trans' HB45.out hb5F
                      have hcF : ∀ j v, #[Value.int .i64 a0, .int .i64 b0, .int .i64 a1, .int .i64 b1, .int .i64 a2, .int .i64 b2, .slice rao runs.length rcap, .slice sao sheep.length scap, .slice (some ⟨gB, 0, none⟩) looks.length looks.length, .map (some wr.heap.size)][j]? = some v → WF.cell? ⟨wr.heap.size + 1, j, none⟩ = some v := by
                        intro j v h
                        have h0 := World.cell?_alloc_new (wr.alloc (Obj.map #[] 0)) #[Value.int .i64 a0, .int .i64 b0, .int .i64 a1, .int .i64 b1, .int .i64 a2, .int .i64 b2, .slice rao runs.length rcap, .slice sao sheep.length scap, .slice (some ⟨gB, 0, none⟩) looks.length looks.length, .map (some wr.heap.size)] 120 j
                        rw [World.size_alloc] at h0
                        rw [← hWF, h0]; exact h
                      have hmF : MapInv Try.prog 140 WF wr.heap.size fun k v => ∃ t, k = keyV t ∧ Prs WF WF.heap.size v (day s t) ∧ Off (fun _ => False) v := by
                        have h0 : MapInv Try.prog 140 (wr.alloc (.map #[] 0)) wr.heap.size fun k v => ∃ t, k = keyV t ∧ Prs WF WF.heap.size v (day s t) ∧ Off (fun _ => False) v := MapInv.made wr
                        refine h0.imp ?_ fun _ _ h => h
                        rw [← hWF]; exact Below.heap_alloc _ _ _ (by simp)
                      have hBd : Board WF (wr.heap.size + 1) wr.heap.size s (fun _ => False) := by
                        refine ⟨?_, ⟨_, hcF 6 _ rfl, by rw [HSR.out]; exact HR.out.later hb0F, fun _ _ _ _ _ h => h⟩, ⟨_, hcF 7 _ rfl, by rw [HS.out]; exact HSH.out.later hb0F, fun _ _ _ _ _ h => h⟩, ⟨_, hcF 8 _ rfl, by rw [HS.out]; exact HO5.out.later hb5F, fun _ _ _ _ _ h => h⟩, hcF 9 _ rfl, hmF, fun k h => h.elim, fun h => h, fun h => h⟩
                        intro k hk
                        rw [HS.out]
                        obtain rfl | rfl | rfl : k = 0 ∨ k = 1 ∨ k = 2 := by omega
                        · exact ⟨hcF 0 _ rfl, hcF 1 _ rfl⟩
                        · exact ⟨hcF 2 _ rfl, hcF 3 _ rfl⟩
                        · exact ⟨hcF 4 _ rfl, hcF 5 _ rfl⟩
                      have hcall := HI.out WF _ _ hb0F hBd HVB.out
                      have hws : w.heap.size ≤ wr.heap.size := by have := HB45.out.size; have := HBZ.out.size; omega
                      have HCALL := Lib.hid hcall
                      have HBD := Lib.hid hBd
                      have HB0F := Lib.hid hb0F
                      clear hcall hBd hb0F hb5F hbF hcF hmF z0 z1 z2 z3 z4 z5 z6 z7 z8 hmm hWF
                      go_wp2
                      refine HCALL.out.mono ?_
                      rintro e B ⟨rfl, hbB⟩
                      have HBB := Lib.hid hbB
                      clear hbB
                      cases okI
                      · go_wp2_with (go_at_call 67; refine (ask_no 2 _).mono ?_; rintro e w6 ⟨rfl, rfl⟩)
                        exact ⟨rfl, .inr (.inl ⟨HVB.out, rfl, rfl, below_trans' HB0F.out HBB.out⟩)⟩
                      · go_wp2_with (go_at_call 67; refine (ask_ok 2 _).mono ?_; rintro e w6 ⟨rfl, rfl⟩)
                        go_ret
                        exact .inr (.inr ⟨HVB.out, rfl, _, _, rfl, below_trans' HB0F.out HBB.out, by omega, hws, by omega, HBD.out.later HBB.out⟩)
          · have h5' : decide ((looks.length : Int) ≤ 4) = false := by simpa using h5
            have hv := HNL.out (by rw [HLE.out]; simp; intro _ _; omega)
            have HV := Lib.hid hv
            clear hv
            go_wp2_with (first
              | (go_at_call 78; refine (within_any _ _ _ _).mono ?_; rintro e w' ⟨rfl, rfl⟩; rw [h3])
              | (go_at_call 67; refine (ask_no 1 _).mono ?_; rintro e w6 ⟨rfl, rfl⟩))
            exact ⟨rfl, .inl ⟨HV.out, rfl, HBW0.out⟩⟩
        · have h4' : decide ((sheep.length : Int) ≤ 16) = false := by simpa using h4
          have hv := HNL.out (by rw [HLE.out]; simp; intro _ _; omega)
          have HV := Lib.hid hv
          clear hv
          go_wp2_with (first
            | (go_at_call 78; refine (within_any _ _ _ _).mono ?_; rintro e w' ⟨rfl, rfl⟩; rw [h3])
            | (go_at_call 67; refine (ask_no 1 _).mono ?_; rintro e w6 ⟨rfl, rfl⟩))
          exact ⟨rfl, .inl ⟨HV.out, rfl, HBW0.out⟩⟩
end Go.Proofs.Ytojbkpnkcpcioaa
/- The ends of the exported functions: the deferred answer, the named results. -/
namespace Go.Proofs.Ytojbkpnkcpcioaa
open Go.RowKit Go.Sh Go.Sh.Stand Go.Shelf

theorem slot_ptr {a : Act} {t : Nat} {p : Option Addr} (h : slot a t = .pointer p) : a.tmps[t]? = some (.pointer p) := by
  unfold slot at h
  cases ht : a.tmps[t]? with
  | none => rw [ht] at h; cases h
  | some v => rw [ht] at h; simpa using h

theorem end_panic {fn : Func} (hres : fn.results = #[.cell 4 23, .cell 5 32]) {tmps : Array Value} {N2 N3 : Nat} (h4 : tmps[4]? = some (.pointer (some ⟨N2, 0, none⟩))) (h5 : tmps[5]? = some (.pointer (some ⟨N3, 0, none⟩)))
    {c : Int} {x : World} {lo hi : Int} (c0 : x.cell? ⟨N2, 0, none⟩ = some (.int .i64 lo)) (c1 : x.cell? ⟨N2, 1, none⟩ = some (.int .i64 hi)) (e0 : x.cell? ⟨N3, 0, none⟩ = some (.int .i64 0)) (f0 : x.frozen? ⟨N3, 0, none⟩ = false) (hn : N2 ≠ N3)
    {R : Ending → World → Prop} (hR : R (.returned (.tuple #[.agg #[.int .i64 lo, .int .i64 hi], .int .i64 c])) (x.setCell ⟨N3, 0, none⟩ (.int .i64 c))) :
    Leaves Try.prog fn tmps R [{ target := .fn (.func 40) #[], args := #[.pointer (some ⟨N3, 0, none⟩)] }] (.panicking (refusal c)) x := by
  refine leaves_cons (f := 40) (args := #[.pointer (some ⟨N3, 0, none⟩)]) (by simp) (by simp [go_sem]) ?_
  refine (answer_refused ⟨N3, 0, none⟩ 0 c [] x e0 f0).mono ?_
  rintro e u' w' ⟨rfl, rfl, rfl⟩
  have k0 : (x.setCell ⟨N3, 0, none⟩ (.int .i64 c)).cell? ⟨N2, 0, none⟩ = some (.int .i64 lo) := by rw [World.cell?_of_block (Below.heap_setCell _ _ _ _ hn)]; exact c0
  have k1 : (x.setCell ⟨N3, 0, none⟩ (.int .i64 c)).cell? ⟨N2, 1, none⟩ = some (.int .i64 hi) := by rw [World.cell?_of_block (Below.heap_setCell _ _ _ _ hn)]; exact c1
  have k2 : (x.setCell ⟨N3, 0, none⟩ (.int .i64 c)).cell? ⟨N3, 0, none⟩ = some (.int .i64 c) := World.cell?_setCell_same' _ _ _ (by rw [e0]; rfl)
  refine ⟨_, ?_, hR⟩
  simp [results, hres, h4, h5, go_sem, k0, k1, k2]
theorem end_ok {fn : Func} (hres : fn.results = #[.cell 4 23, .cell 5 32]) {tmps : Array Value} {N2 N3 : Nat} (h4 : tmps[4]? = some (.pointer (some ⟨N2, 0, none⟩))) (h5 : tmps[5]? = some (.pointer (some ⟨N3, 0, none⟩)))
    {x : World} {lo hi c : Int} (c0 : x.cell? ⟨N2, 0, none⟩ = some (.int .i64 lo)) (c1 : x.cell? ⟨N2, 1, none⟩ = some (.int .i64 hi)) (e0 : x.cell? ⟨N3, 0, none⟩ = some (.int .i64 c))
    {R : Ending → World → Prop} (hR : R (.returned (.tuple #[.agg #[.int .i64 lo, .int .i64 hi], .int .i64 c])) x) :
    Leaves Try.prog fn tmps R [{ target := .fn (.func 40) #[], args := #[.pointer (some ⟨N3, 0, none⟩)] }] .returning x := by
  refine leaves_cons (f := 40) (args := #[.pointer (some ⟨N3, 0, none⟩)]) (by simp) (by simp [go_sem]) ?_
  refine (answer_idle ⟨N3, 0, none⟩ x).mono ?_
  rintro e u' w' ⟨rfl, rfl, rfl⟩
  refine ⟨_, ?_, hR⟩
  simp [results, hres, h4, h5, go_sem, c0, c1, e0]

/-- What a measured question is answered. -/
def ansE (s : Stand) (okI : Bool) (L : List Int) : (Int × Int) × Int :=
  if validB s = false then ((0, 0), 1) else if okI = false then ((0, 0), 2) else if L = [] then ((0, 0), 10) else (joinedL (L.map fun n => (n, n)), 0)
def Answered (s : Stand) (okI : Bool) (L : List Int) (w : World) (e : Ending) (w' : World) : Prop :=
  e = .returned (.tuple #[.agg #[.int .i64 (ansE s okI L).1.1, .int .i64 (ansE s okI L).1.2], .int .i64 (ansE s okI L).2]) ∧ Below w.heap.size w w'

/-- How open or what follows refuses: which of the three errors, and why. -/
def Refuses (s : Stand) (okI : Bool) (L : List Int) (c : Int) : Prop := (validB s = false ∧ c = 1) ∨ (validB s = true ∧ okI = false ∧ c = 2) ∨ (validB s = true ∧ okI = true ∧ L = [] ∧ c = 10)
theorem Refuses.ans {s : Stand} {okI : Bool} {L : List Int} {c : Int} (h : Refuses s okI L c) : ansE s okI L = ((0, 0), c) := by
  unfold ansE
  rcases h with ⟨h1, rfl⟩ | ⟨h1, h2, rfl⟩ | ⟨h1, h2, h3, rfl⟩
  · rw [if_pos h1]
  · rw [if_neg (by simp [h1]), if_pos h2]
  · rw [if_neg (by simp [h1]), if_neg (by simp [h2]), if_pos h3]
theorem ans_told {s : Stand} {okI : Bool} {L : List Int} (h1 : validB s = true) (h2 : okI = true) (h3 : L ≠ []) : ansE s okI L = (joinedL (L.map fun n => (n, n)), 0) := by
  unfold ansE
  rw [if_neg (by simp [h1]), if_neg (by simp [h2]), if_neg h3]

def standV (a0 b0 a1 b1 a2 b2 : Int) (rv sv lv : Value) : Value := .agg #[.int .i64 a0, .int .i64 b0, .int .i64 a1, .int .i64 b1, .int .i64 a2, .int .i64 b2, rv, sv, lv]
end Go.Proofs.Ytojbkpnkcpcioaa
/- Facts for the walks of the exported functions. -/
namespace Go.Proofs.Ytojbkpnkcpcioaa
open Go.RowKit Go.Sh Go.Sh.Stand Go.Shelf

theorem fit_of_valid {s : Stand} (h3 : s.mins.length = 3) (h : validB s = true) : Fit s := by
  unfold validB lensB at h
  simp only [Bool.and_eq_true, List.all_eq_true] at h
  obtain ⟨h1, ⟨⟨h2, h4⟩, h5⟩, h6, h7, h8⟩ := h
  have hr : ∀ (l : List (Int × Int)) (bl : Int), 0 ≤ bl → runsB l bl = true → ∀ p ∈ l, 0 ≤ p.1 ∧ p.1 < p.2 ∧ p.2 ≤ 600 := by
    intro l
    induction l with
    | nil => intro bl _ _ p hp; cases hp
    | cons q r ih =>
      obtain ⟨st, be⟩ := q
      intro bl hbl h p hp
      simp only [runsB, inR, Bool.and_eq_true, decide_eq_true_eq] at h
      rcases List.mem_cons.1 hp with rfl | hp
      · simp only; omega
      · exact ih be (by omega) h.2 p hp
  unfold inR at h2
  simp only [Bool.and_eq_true, decide_eq_true_eq] at h2 h4 h5
  refine ⟨h3, fun p hp => ?_, by omega, hr _ 0 (by omega) h6, by omega, fun k hk => ?_, by omega, fun l hl => ?_⟩
  · have := h1 p hp
    unfold minB at this
    simp only [Bool.and_eq_true, decide_eq_true_eq] at this
    omega
  · have := h7 k hk
    unfold inR at this
    simpa using this
  · have := h8 l hl
    unfold lookB inR at this
    simp only [Bool.and_eq_true, decide_eq_true_eq] at this
    omega


theorem dayFrom_range (runs : List (Int × Int)) (t : Shearer) (hr : ∀ p ∈ runs, 0 ≤ p.1 ∧ p.1 < p.2 ∧ p.2 ≤ 600) (ht : Tok t) : ∀ (ks : List Int) (run : Nat) (done : Int), 0 ≤ done → ∀ x ∈ dayFrom runs t ks run done, 0 ≤ x.1 ∧ x.1 ≤ 1000
  | [], _, _, _, x, hx => by simp [dayFrom] at hx
  | k :: ks, run, done, hd, x, hx => by
    unfold dayFrom at hx
    have htk : 1 ≤ tk t k ∧ tk t k ≤ 40 := by
      unfold tk; split
      · exact ht.1
      · split
        · exact ht.2.1
        · exact ht.2.2
    split at hx
    · have := List.eq_of_mem_replicate hx
      subst this; simp
    · rename_i i at_ hb
      obtain ⟨p, h1, h2, h3, h4⟩ := begins_of_drop hb
      have hp := hr p (List.mem_of_getElem? h2)
      have hg := gmax_ge done p.1
      rcases List.mem_cons.1 hx with rfl | hx
      · simp only; omega
      · exact dayFrom_range runs t hr ht ks i _ (by omega) x hx
theorem day_range {s : Stand} (hs : Fit s) {t : Shearer} (ht : t ∈ allSh s) : ∀ x ∈ day s t, 0 ≤ x.1 ∧ x.1 ≤ 1000 := dayFrom_range s.runs t hs.runb (tok_all hs t ht) s.sheep 0 0 (by omega)
theorem day_len (s : Stand) (t : Shearer) : (day s t).length = s.sheep.length := dayFrom_length ..
end Go.Proofs.Ytojbkpnkcpcioaa
/- The walk of Done. -/
namespace Go.Proofs.Ytojbkpnkcpcioaa
open Go.RowKit Go.Sh Go.Sh.Stand Go.Shelf

def doneL (s : Stand) (k : Int) : List Int := (truthsL s (everyB s)).map fun t => ((day s t).getD k.toNat (0, 0)).1

set_option maxHeartbeats 400000 in
theorem done1_any (b Bk : Nat) (ao : Option Addr) (n cap : Nat) (k : Int) (w : World) (hb : w.cell? ⟨b, 7, none⟩ = some (.slice ao n cap)) (hk : w.cell? ⟨Bk, 0, none⟩ = some (.int .i64 k)) (hn : n < 1000) :
    Calls Try.prog 42 #[.pointer (some ⟨b, 0, none⟩), .pointer (some ⟨Bk, 0, none⟩)] w fun e w' => e = .returned (.bool (inB k 0 (n - 1))) ∧ Below w.heap.size w w' := by
  have HS := Lib.hid (isSheep_any b ao n cap k w hb hn)
  go_enter Try.func42, Try.ntmps42
  go_wp2_with (go_at_call 43; refine HS.out.mono ?_; rintro e w' ⟨rfl, rfl⟩)
  go_ret
  exact ⟨rfl, Below.refl _ _⟩

set_option maxRecDepth 100000 in
set_option maxHeartbeats 1000000 in
theorem done_any (a0 b0 a1 b1 a2 b2 : Int) (rv sv lv : Value) (runs : List (Int × Int)) (sheep : List Int) (looks : List (Int × Int × Int)) (k : Int) (w : World)
    (hr : Prs w w.heap.size rv runs) (hsh : Ints w w.heap.size sv sheep) (hl : Trs w w.heap.size lv looks) (s : Stand) (hs : s = ⟨[(a0, b0), (a1, b1), (a2, b2)], runs, sheep, looks⟩) :
    Calls Try.prog 13 #[.agg #[.int .i64 a0, .int .i64 b0, .int .i64 a1, .int .i64 b1, .int .i64 a2, .int .i64 b2, rv, sv, lv], .int .i64 k] w (Answered s (inB k 0 (sheep.length - 1)) (doneL s k) w) := by
  obtain ⟨w1, hw1⟩ : ∃ x, (((w.alloc (.cells #[.int .i64 a0, .int .i64 b0, .int .i64 a1, .int .i64 b1, .int .i64 a2, .int .i64 b2, rv, sv, lv] 29)).alloc (.cells #[.int .i64 k] 3)).alloc (.cells #[.int .i64 0, .int .i64 0] 23)).alloc (.cells #[.int .i64 0] 32) = x := ⟨_, rfl⟩
  have hb1 : Below w.heap.size w w1 := by rw [← hw1]; exact ((below_two _ _ _).alloc (by simp; omega) _).alloc (by simp; omega) _
  have hsz1 : w1.heap.size = w.heap.size + 4 := by rw [← hw1]; simp
  have hk1 : w1.cell? ⟨w.heap.size + 1, 0, none⟩ = some (.int .i64 k) := by rw [← hw1]; simp [go_sem]
  have x0 : w1.cell? ⟨w.heap.size + 2, 0, none⟩ = some (.int .i64 0) := by rw [← hw1]; simp [go_sem]
  have x1 : w1.cell? ⟨w.heap.size + 2, 1, none⟩ = some (.int .i64 0) := by rw [← hw1]; simp [go_sem]
  have x2 : w1.cell? ⟨w.heap.size + 3, 0, none⟩ = some (.int .i64 0) := by rw [← hw1]; simp [go_sem]
  have y0 : w1.frozen? ⟨w.heap.size + 2, 0, none⟩ = false := by rw [← hw1]; simp [go_sem]
  have y1 : w1.frozen? ⟨w.heap.size + 2, 1, none⟩ = false := by rw [← hw1]; simp [go_sem]
  have y2 : w1.frozen? ⟨w.heap.size + 3, 0, none⟩ = false := by rw [← hw1]; simp [go_sem]
  have hc1 : ∀ j v, #[Value.int .i64 a0, .int .i64 b0, .int .i64 a1, .int .i64 b1, .int .i64 a2, .int .i64 b2, rv, sv, lv][j]? = some v → w1.cell? ⟨w.heap.size, j, none⟩ = some v := by
    intro j v h; rw [← hw1]
    rw [World.cell?_alloc_lt _ _ _ (by simp; omega), World.cell?_alloc_lt _ _ _ (by simp; omega), World.cell?_alloc_lt _ _ _ (by simp), World.cell?_alloc_new]; exact h
  have hr1 := hr.later hb1
  have hsh1 := hsh.later hb1
  have hl1 := hl.later hb1
  have e0 : ∀ x, Below w1.heap.size w1 x → x.cell? ⟨w.heap.size, 0, none⟩ = some (.int .i64 a0) := fun x h => cell_old h (hc1 0 _ rfl)
  have e1 : ∀ x, Below w1.heap.size w1 x → x.cell? ⟨w.heap.size, 1, none⟩ = some (.int .i64 b0) := fun x h => cell_old h (hc1 1 _ rfl)
  have e2 : ∀ x, Below w1.heap.size w1 x → x.cell? ⟨w.heap.size, 2, none⟩ = some (.int .i64 a1) := fun x h => cell_old h (hc1 2 _ rfl)
  have e3 : ∀ x, Below w1.heap.size w1 x → x.cell? ⟨w.heap.size, 3, none⟩ = some (.int .i64 b1) := fun x h => cell_old h (hc1 3 _ rfl)
  have e4 : ∀ x, Below w1.heap.size w1 x → x.cell? ⟨w.heap.size, 4, none⟩ = some (.int .i64 a2) := fun x h => cell_old h (hc1 4 _ rfl)
  have e5 : ∀ x, Below w1.heap.size w1 x → x.cell? ⟨w.heap.size, 5, none⟩ = some (.int .i64 b2) := fun x h => cell_old h (hc1 5 _ rfl)
  have e6 : ∀ x, Below w1.heap.size w1 x → x.cell? ⟨w.heap.size, 6, none⟩ = some rv := fun x h => cell_old h (hc1 6 _ rfl)
  have e7 : ∀ x, Below w1.heap.size w1 x → x.cell? ⟨w.heap.size, 7, none⟩ = some sv := fun x h => cell_old h (hc1 7 _ rfl)
  have e8 : ∀ x, Below w1.heap.size w1 x → x.cell? ⟨w.heap.size, 8, none⟩ = some lv := fun x h => cell_old h (hc1 8 _ rfl)
  have ek : ∀ x, Below w1.heap.size w1 x → x.cell? ⟨w.heap.size + 1, 0, none⟩ = some (.int .i64 k) := fun x h => cell_old h hk1
  have hsheep : s.sheep = sheep := by rw [hs]
  have hmins3 : s.mins.length = 3 := by rw [hs]; rfl
  obtain ⟨okI, hok⟩ : ∃ x, inB k 0 (sheep.length - 1) = x := ⟨_, rfl⟩
  have hopen : ∀ x, Below w1.heap.size w1 x → Calls Try.prog 41 #[.agg #[.int .i64 a0, .int .i64 b0, .int .i64 a1, .int .i64 b1, .int .i64 a2, .int .i64 b2, rv, sv, lv], .func (.func 42) #[] #[.pointer (some ⟨w.heap.size + 1, 0, none⟩)]] x (OpenPost s okI x) := by
    intro x hx
    rw [hs]
    refine open_any a0 b0 a1 b1 a2 b2 rv sv lv runs sheep looks 42 #[.pointer (some ⟨w.heap.size + 1, 0, none⟩)] okI x (hr1.later hx) (hsh1.later hx) (hl1.later hx) (enters_of Try.func42 (by kernel_rfl) rfl) ?_
    intro A b m hA hBd hv
    obtain ⟨v7, h7, ⟨ao, cap, rfl, hln, _⟩, _⟩ := hBd.sheep
    have hfit := (fit_of_valid rfl hv).sheep
    simp only at hfit h7
    have := done1_any b (w.heap.size + 1) ao sheep.length cap k A h7 (cell_old hA (cell_old hx hk1)) (by omega)
    rw [hok] at this
    exact this
  rw [hok]
  have HO := Lib.hid hopen
  have HS := Lib.hid hs
  have HOK := Lib.hid hok
  have HB1 := Lib.hid hb1
  have HM3 := Lib.hid hmins3
  have HSH := Lib.hid hsheep
  have HSZ := Lib.hid hsz1
  clear hopen hs hok hb1 hr hsh hl hr1 hsh1 hl1 hc1 hmins3 hsheep hsz1
  go_enter_defers Try.func13, Try.ntmps13
  go_wp2
  clear hw1
  simp only [Nat.add_assoc, Nat.reduceAdd]
  refine wp_region_rel (sz := 13) 6 (fun x y => Below x.heap.size x y) [cV ?rv0, cV ?rv1, fun v x => ∃ b m, v = .pointer (some ⟨b, 0, none⟩) ∧ w1.heap.size ≤ b ∧ w1.heap.size ≤ m ∧ validB s = true ∧ okI = true ∧ Board x b m s (fun _ => False), cV ?rv3, cV ?rv4, cV ?rv5]
    (fun ch x => ∃ c, ch = refusal c ∧ Refuses s okI (doneL s k) c ∧ Below w1.heap.size w1 x) (by kernel_rfl) rfl (by kernel_rfl) ((Below.refl _ _).drew) (fun h1 h2 => below_trans' h1 h2) ?rgS ?rgO ?rgP ?rgL ?rgE
  case rgO =>
    refine ⟨?_, ?_, ?_, ?_, ?_, ?_, trivial⟩
    all_goals
      intro a x hR hA
      rw [if_pos (by rfl)]
      have hR : Below w1.heap.size w1 x := hR
    · have s2 : a.tmps[2]?.getD undef = .pointer (some ⟨w.heap.size, 0, none⟩) := hA.base 2 (by decide)
      clear hA
      refine rg_val_wide _ ?_ (by simp) rfl (Below.refl _ _); go_simp; rfl
    · have s2 : a.tmps[3]?.getD undef = .pointer (some ⟨w.heap.size + 1, 0, none⟩) := hA.base 3 (by decide)
      clear hA
      refine rg_val_wide _ ?_ (by simp) rfl (Below.refl _ _); go_simp; rfl
    · have s6 : a.tmps[6]?.getD undef = _ := hA.pre 0 _ rfl (by kernel_rfl)
      have s7 : a.tmps[7]?.getD undef = _ := hA.pre 1 _ rfl (by kernel_rfl)
      clear hA
      refine rg_call_wide rfl (by go_simp; exact ⟨rfl, rfl⟩) ?_
      refine (HO.out x hR).mono ?_
      rintro e w2 (⟨h1, rfl, hb⟩ | ⟨h1, h2, rfl, hb⟩ | ⟨h1, h2, b, m, rfl, hb, hbb, hmm, hne, hbd⟩)
      · exact ⟨1, rfl, .inl ⟨h1, rfl⟩, below_trans' hR hb⟩
      · exact ⟨2, rfl, .inr (.inl ⟨h1, h2, rfl⟩), below_trans' hR hb⟩
      · exact ⟨⟨b, m, rfl, Nat.le_trans hR.size hbb, Nat.le_trans hR.size hmm, h1, h2, hbd⟩, hb⟩
    · have s2 : a.tmps[3]?.getD undef = .pointer (some ⟨w.heap.size + 1, 0, none⟩) := hA.base 3 (by decide)
      clear hA
      refine rg_val_wide _ ?_ (by simp) rfl (Below.refl _ _); go_simp; rfl
    · have s6 : a.tmps[9]?.getD undef = _ := hA.pre 3 _ rfl (by kernel_rfl)
      clear hA
      refine rg_val_wide _ ?_ (by simp) rfl (Below.refl _ _); go_simp; rfl
    · have s6 : a.tmps[10]?.getD undef = _ := hA.pre 4 _ rfl (by kernel_rfl)
      clear hA
      refine rg_val_wide _ ?_ (by simp) rfl (Below.refl _ _); go_simp; rfl
  case rgS =>
    intro V hV u x y hR hu
    simp only [List.mem_cons, List.not_mem_nil, or_false] at hV
    rcases hV with rfl | rfl | rfl | rfl | rfl | rfl
    all_goals first | exact hu | (obtain ⟨b, m, h1, h2, h3, h4, h5, h6⟩ := hu; exact ⟨b, m, h1, h2, h3, h4, h5, h6.later hR⟩)
  case rgP =>
    rintro ch a x ⟨c, rfl, hc, hb⟩ hsl hdf
    have t4 : a.tmps[4]? = some (.pointer (some ⟨w.heap.size + 2, 0, none⟩)) := slot_ptr (hsl 4 (by decide))
    have t5 : a.tmps[5]? = some (.pointer (some ⟨w.heap.size + 3, 0, none⟩)) := slot_ptr (hsl 5 (by decide))
    show Leaves Try.prog Try.f13 a.tmps _ a.defers (.panicking (refusal c)) x
    rw [hdf]
    refine end_panic rfl t4 t5 (cell_old hb x0) (cell_old hb x1) (cell_old hb x2) (((bcell hb).2 _ 0 (by have := HSZ.out; omega)).trans y2) (by omega) ?_
    unfold Answered
    rw [hc.ans]
    exact ⟨rfl, (below_trans' HB1.out hb).setCell (by simp only; omega) _⟩
  case rgL =>
    rintro ⟨a, x, h⟩
    have h' : Answered s okI (doneL s k) w .outgrown x := h
    cases h'.1
  case rgE =>
    intro v0 v1 v2 v3 v4 v5 x hk
    obtain ⟨rfl, rfl, rfl, ⟨b, m, rfl, hbb, hbm, hv, hoi, hbd⟩, rfl, rfl, hx⟩ := hk
    simp only [List.drop_succ_cons, List.drop_zero, Act.put, List.setIfInBounds_toArray, List.set_cons_succ, List.set_cons_zero]
    have hx : Below w1.heap.size w1 x := hx
    subst hoi
    have hfit := fit_of_valid HM3.out hv
    have hkn : 0 ≤ k ∧ k.toNat < s.sheep.length := by
      have h0 := HOK.out
      have h1 : s.sheep = sheep := by rw [HS.out]
      rw [h1]
      unfold inB at h0
      simp only [Bool.and_eq_true, decide_eq_true_eq] at h0
      omega
    have hkv : Value.agg #[.int .i64 k] = .agg #[.int .i64 (k.toNat : Int)] := by rw [Int.toNat_of_nonneg hkn.1]
    have HKV := Lib.hid hkv
    clear hkv
    have hme := measured_any b m s (fun _ => False) 75 (.agg #[.int .i64 k]) 118 (fun l => (l.getD k.toNat (0, 0)).1) x hfit hbd (fun _ => by kernel_rfl) (fun _ => by kernel_rfl) (enters_of Try.func118 (by kernel_rfl) rfl)
      (fun A X v t ht hA hp => by rw [HKV.out]; exact doneAt_any k.toNat _ v _ A hp (by rw [day_len]; exact hkn.2))
    have z0 := cell_old hx x0
    have z1 := cell_old hx x1
    have z2 := cell_old hx x2
    have u0 := ((bcell hx).2 (w.heap.size + 2) 0 (by have := HSZ.out; omega)).trans y0
    have u1 := ((bcell hx).2 (w.heap.size + 2) 1 (by have := HSZ.out; omega)).trans y1
    have u2 := ((bcell hx).2 (w.heap.size + 3) 0 (by have := HSZ.out; omega)).trans y2
    have hL : ((truthsL s (everyB s)).map fun t => ((day s t).getD k.toNat (0, 0)).1) = doneL s k := rfl
    obtain ⟨L, hLL⟩ : ∃ L, doneL s k = L := ⟨_, rfl⟩
    rw [hLL] at hL ⊢
    rw [hL] at hme
    have hwx : Below w.heap.size w x := below_trans' HB1.out hx
    have hxs : w1.heap.size ≤ x.heap.size := hx.size
    have HWX := Lib.hid hwx
    have HLL := Lib.hid hLL
    have HXS := Lib.hid hxs
    clear hwx hxs hx hL hLL hbd e0 e1 e2 e3 e4 e5 e6 e7 e8 ek x0 x1 x2 y0 y1 y2 hk1
    have n2 : w.heap.size + 2 ≠ m := by have := HSZ.out; omega
    have n3 : w.heap.size + 3 ≠ m := by have := HSZ.out; omega
    have hlt2 : w.heap.size + 2 < x.heap.size := by have := HSZ.out; have := HXS.out; omega
    have hlt3 : w.heap.size + 3 < x.heap.size := by have := HSZ.out; have := HXS.out; omega
    have hmB : ∀ (y : World), Frm (fun k => k = m) x y → Below w.heap.size w y := fun _ hf => HWX.out.trans (hf.below (fun k hk => by have := HSZ.out; omega) HWX.out.size)
    have HMB := Lib.hid hmB
    clear hmB
    by_cases hl : L = []
    · subst hl
      simp only [toldE, if_pos] at hme
      have HME := Lib.hid hme
      have hrf : Refuses s true [] 10 := .inr (.inr ⟨hv, rfl, rfl, rfl⟩)
      have HRF := Lib.hid hrf
      clear hme hrf
      go_wp2_with (go_at_call 44; refine HME.out.mono ?_; rintro e y ⟨rfl, hon⟩
                   have z0 := hon.cell z0 n2
                   have z1 := hon.cell z1 n2
                   have z2 := hon.cell z2 n3
                   have u2 := (hon.frm.frozen hlt3 n3).trans u2
                   have HON := Lib.hid hon; clear hon)
      refine end_panic rfl rfl rfl z0 z1 z2 u2 (by omega) ?_
      unfold Answered
      rw [HRF.out.ans]
      exact ⟨rfl, (HMB.out _ HON.out.frm).setCell (by simp only; omega) _⟩
    · obtain ⟨jl, hjl⟩ : ∃ x, joinedL (L.map fun n => (n, n)) = x := ⟨_, rfl⟩
      simp only [toldE, if_neg hl, hjl] at hme
      have han : ansE s true L = (jl, 0) := by rw [← hjl]; exact ans_told hv rfl hl
      have HAN := Lib.hid han
      have HME := Lib.hid hme
      clear hme han hjl
      go_wp2_with (go_at_call 44; refine HME.out.mono ?_; rintro e y ⟨rfl, hon⟩
                   have z0 := hon.cell z0 n2
                   have z1 := hon.cell z1 n2
                   have z2 := hon.cell z2 n3
                   have u0 := (hon.frm.frozen hlt2 n2).trans u0
                   have u1 := (hon.frm.frozen hlt2 n2).trans u1
                   have u2 := (hon.frm.frozen hlt3 n3).trans u2
                   have HON := Lib.hid hon; clear hon)
      refine end_ok (lo := jl.1) (hi := jl.2) (c := 0) rfl rfl rfl (by simp [go_sem, z0, z1, z2]) (by simp [go_sem, z0, z1, z2]) (by simp [go_sem, z0, z1, z2]) ?_
      unfold Answered
      try rw [HLL.out]
      rw [HAN.out]
      exact ⟨rfl, (((HMB.out _ HON.out.frm).setCell (by simp only; omega) _).setCell (by simp only; omega) _).setCell (by simp only; omega) _⟩
end Go.Proofs.Ytojbkpnkcpcioaa
/- The walk of Count. -/
namespace Go.Proofs.Ytojbkpnkcpcioaa
open Go.RowKit Go.Sh Go.Sh.Stand Go.Shelf

def countL (s : Stand) (k : Int) : List Int := (truthsL s (everyB s)).map fun t => countAt (day s t) k

set_option maxHeartbeats 400000 in
theorem count1_any (b Bk : Nat) (k : Int) (w : World) (hk : w.cell? ⟨Bk, 0, none⟩ = some (.int .i64 k)) :
    Calls Try.prog 48 #[.pointer (some ⟨b, 0, none⟩), .pointer (some ⟨Bk, 0, none⟩)] w fun e w' => e = .returned (.bool (inB k 0 999)) ∧ Below w.heap.size w w' := by
  have HS := Lib.hid (isMinute_any k w)
  go_enter Try.func48, Try.ntmps48
  go_wp2_with (go_at_call 49; refine HS.out.mono ?_; rintro e w' ⟨rfl, rfl⟩)
  go_ret
  exact ⟨rfl, Below.refl _ _⟩

set_option maxRecDepth 100000 in
set_option maxHeartbeats 1000000 in
theorem count_any (a0 b0 a1 b1 a2 b2 : Int) (rv sv lv : Value) (runs : List (Int × Int)) (sheep : List Int) (looks : List (Int × Int × Int)) (k : Int) (w : World)
    (hr : Prs w w.heap.size rv runs) (hsh : Ints w w.heap.size sv sheep) (hl : Trs w w.heap.size lv looks) (s : Stand) (hs : s = ⟨[(a0, b0), (a1, b1), (a2, b2)], runs, sheep, looks⟩) :
    Calls Try.prog 15 #[.agg #[.int .i64 a0, .int .i64 b0, .int .i64 a1, .int .i64 b1, .int .i64 a2, .int .i64 b2, rv, sv, lv], .int .i64 k] w (Answered s (inB k 0 999) (countL s k) w) := by
  obtain ⟨w1, hw1⟩ : ∃ x, (((w.alloc (.cells #[.int .i64 a0, .int .i64 b0, .int .i64 a1, .int .i64 b1, .int .i64 a2, .int .i64 b2, rv, sv, lv] 29)).alloc (.cells #[.int .i64 k] 3)).alloc (.cells #[.int .i64 0, .int .i64 0] 23)).alloc (.cells #[.int .i64 0] 32) = x := ⟨_, rfl⟩
  have hb1 : Below w.heap.size w w1 := by rw [← hw1]; exact ((below_two _ _ _).alloc (by simp; omega) _).alloc (by simp; omega) _
  have hsz1 : w1.heap.size = w.heap.size + 4 := by rw [← hw1]; simp
  have hk1 : w1.cell? ⟨w.heap.size + 1, 0, none⟩ = some (.int .i64 k) := by rw [← hw1]; simp [go_sem]
  have x0 : w1.cell? ⟨w.heap.size + 2, 0, none⟩ = some (.int .i64 0) := by rw [← hw1]; simp [go_sem]
  have x1 : w1.cell? ⟨w.heap.size + 2, 1, none⟩ = some (.int .i64 0) := by rw [← hw1]; simp [go_sem]
  have x2 : w1.cell? ⟨w.heap.size + 3, 0, none⟩ = some (.int .i64 0) := by rw [← hw1]; simp [go_sem]
  have y0 : w1.frozen? ⟨w.heap.size + 2, 0, none⟩ = false := by rw [← hw1]; simp [go_sem]
  have y1 : w1.frozen? ⟨w.heap.size + 2, 1, none⟩ = false := by rw [← hw1]; simp [go_sem]
  have y2 : w1.frozen? ⟨w.heap.size + 3, 0, none⟩ = false := by rw [← hw1]; simp [go_sem]
  have hc1 : ∀ j v, #[Value.int .i64 a0, .int .i64 b0, .int .i64 a1, .int .i64 b1, .int .i64 a2, .int .i64 b2, rv, sv, lv][j]? = some v → w1.cell? ⟨w.heap.size, j, none⟩ = some v := by
    intro j v h; rw [← hw1]
    rw [World.cell?_alloc_lt _ _ _ (by simp; omega), World.cell?_alloc_lt _ _ _ (by simp; omega), World.cell?_alloc_lt _ _ _ (by simp), World.cell?_alloc_new]; exact h
  have hr1 := hr.later hb1
  have hsh1 := hsh.later hb1
  have hl1 := hl.later hb1
  have e0 : ∀ x, Below w1.heap.size w1 x → x.cell? ⟨w.heap.size, 0, none⟩ = some (.int .i64 a0) := fun x h => cell_old h (hc1 0 _ rfl)
  have e1 : ∀ x, Below w1.heap.size w1 x → x.cell? ⟨w.heap.size, 1, none⟩ = some (.int .i64 b0) := fun x h => cell_old h (hc1 1 _ rfl)
  have e2 : ∀ x, Below w1.heap.size w1 x → x.cell? ⟨w.heap.size, 2, none⟩ = some (.int .i64 a1) := fun x h => cell_old h (hc1 2 _ rfl)
  have e3 : ∀ x, Below w1.heap.size w1 x → x.cell? ⟨w.heap.size, 3, none⟩ = some (.int .i64 b1) := fun x h => cell_old h (hc1 3 _ rfl)
  have e4 : ∀ x, Below w1.heap.size w1 x → x.cell? ⟨w.heap.size, 4, none⟩ = some (.int .i64 a2) := fun x h => cell_old h (hc1 4 _ rfl)
  have e5 : ∀ x, Below w1.heap.size w1 x → x.cell? ⟨w.heap.size, 5, none⟩ = some (.int .i64 b2) := fun x h => cell_old h (hc1 5 _ rfl)
  have e6 : ∀ x, Below w1.heap.size w1 x → x.cell? ⟨w.heap.size, 6, none⟩ = some rv := fun x h => cell_old h (hc1 6 _ rfl)
  have e7 : ∀ x, Below w1.heap.size w1 x → x.cell? ⟨w.heap.size, 7, none⟩ = some sv := fun x h => cell_old h (hc1 7 _ rfl)
  have e8 : ∀ x, Below w1.heap.size w1 x → x.cell? ⟨w.heap.size, 8, none⟩ = some lv := fun x h => cell_old h (hc1 8 _ rfl)
  have ek : ∀ x, Below w1.heap.size w1 x → x.cell? ⟨w.heap.size + 1, 0, none⟩ = some (.int .i64 k) := fun x h => cell_old h hk1
  have hsheep : s.sheep = sheep := by rw [hs]
  have hmins3 : s.mins.length = 3 := by rw [hs]; rfl
  obtain ⟨okI, hok⟩ : ∃ x, inB k 0 999 = x := ⟨_, rfl⟩
  have hopen : ∀ x, Below w1.heap.size w1 x → Calls Try.prog 41 #[.agg #[.int .i64 a0, .int .i64 b0, .int .i64 a1, .int .i64 b1, .int .i64 a2, .int .i64 b2, rv, sv, lv], .func (.func 48) #[] #[.pointer (some ⟨w.heap.size + 1, 0, none⟩)]] x (OpenPost s okI x) := by
    intro x hx
    rw [hs]
    refine open_any a0 b0 a1 b1 a2 b2 rv sv lv runs sheep looks 48 #[.pointer (some ⟨w.heap.size + 1, 0, none⟩)] okI x (hr1.later hx) (hsh1.later hx) (hl1.later hx) (enters_of Try.func48 (by kernel_rfl) rfl) ?_
    intro A b m hA hBd hv
    have := count1_any b (w.heap.size + 1) k A (cell_old hA (cell_old hx hk1))
    rw [hok] at this
    exact this
  rw [hok]
  have HO := Lib.hid hopen
  have HS := Lib.hid hs
  have HOK := Lib.hid hok
  have HB1 := Lib.hid hb1
  have HM3 := Lib.hid hmins3
  have HSH := Lib.hid hsheep
  have HSZ := Lib.hid hsz1
  clear hopen hs hok hb1 hr hsh hl hr1 hsh1 hl1 hc1 hmins3 hsheep hsz1
  go_enter_defers Try.func15, Try.ntmps15
  go_wp2
  clear hw1
  simp only [Nat.add_assoc, Nat.reduceAdd]
  refine wp_region_rel (sz := 13) 6 (fun x y => Below x.heap.size x y) [cV ?rv0, cV ?rv1, fun v x => ∃ b m, v = .pointer (some ⟨b, 0, none⟩) ∧ w1.heap.size ≤ b ∧ w1.heap.size ≤ m ∧ validB s = true ∧ okI = true ∧ Board x b m s (fun _ => False), cV ?rv3, cV ?rv4, cV ?rv5]
    (fun ch x => ∃ c, ch = refusal c ∧ Refuses s okI (countL s k) c ∧ Below w1.heap.size w1 x) (by kernel_rfl) rfl (by kernel_rfl) ((Below.refl _ _).drew) (fun h1 h2 => below_trans' h1 h2) ?rgS ?rgO ?rgP ?rgL ?rgE
  case rgO =>
    refine ⟨?_, ?_, ?_, ?_, ?_, ?_, trivial⟩
    all_goals
      intro a x hR hA
      rw [if_pos (by rfl)]
      have hR : Below w1.heap.size w1 x := hR
    · have s2 : a.tmps[2]?.getD undef = .pointer (some ⟨w.heap.size, 0, none⟩) := hA.base 2 (by decide)
      clear hA
      refine rg_val_wide _ ?_ (by simp) rfl (Below.refl _ _); go_simp; rfl
    · have s2 : a.tmps[3]?.getD undef = .pointer (some ⟨w.heap.size + 1, 0, none⟩) := hA.base 3 (by decide)
      clear hA
      refine rg_val_wide _ ?_ (by simp) rfl (Below.refl _ _); go_simp; rfl
    · have s6 : a.tmps[6]?.getD undef = _ := hA.pre 0 _ rfl (by kernel_rfl)
      have s7 : a.tmps[7]?.getD undef = _ := hA.pre 1 _ rfl (by kernel_rfl)
      clear hA
      refine rg_call_wide rfl (by go_simp; exact ⟨rfl, rfl⟩) ?_
      refine (HO.out x hR).mono ?_
      rintro e w2 (⟨h1, rfl, hb⟩ | ⟨h1, h2, rfl, hb⟩ | ⟨h1, h2, b, m, rfl, hb, hbb, hmm, hne, hbd⟩)
      · exact ⟨1, rfl, .inl ⟨h1, rfl⟩, below_trans' hR hb⟩
      · exact ⟨2, rfl, .inr (.inl ⟨h1, h2, rfl⟩), below_trans' hR hb⟩
      · exact ⟨⟨b, m, rfl, Nat.le_trans hR.size hbb, Nat.le_trans hR.size hmm, h1, h2, hbd⟩, hb⟩
    · have s2 : a.tmps[3]?.getD undef = .pointer (some ⟨w.heap.size + 1, 0, none⟩) := hA.base 3 (by decide)
      clear hA
      refine rg_val_wide _ ?_ (by simp) rfl (Below.refl _ _); go_simp; rfl
    · have s6 : a.tmps[9]?.getD undef = _ := hA.pre 3 _ rfl (by kernel_rfl)
      clear hA
      refine rg_val_wide _ ?_ (by simp) rfl (Below.refl _ _); go_simp; rfl
    · have s6 : a.tmps[10]?.getD undef = _ := hA.pre 4 _ rfl (by kernel_rfl)
      clear hA
      refine rg_val_wide _ ?_ (by simp) rfl (Below.refl _ _); go_simp; rfl
  case rgS =>
    intro V hV u x y hR hu
    simp only [List.mem_cons, List.not_mem_nil, or_false] at hV
    rcases hV with rfl | rfl | rfl | rfl | rfl | rfl
    all_goals first | exact hu | (obtain ⟨b, m, h1, h2, h3, h4, h5, h6⟩ := hu; exact ⟨b, m, h1, h2, h3, h4, h5, h6.later hR⟩)
  case rgP =>
    rintro ch a x ⟨c, rfl, hc, hb⟩ hsl hdf
    have t4 : a.tmps[4]? = some (.pointer (some ⟨w.heap.size + 2, 0, none⟩)) := slot_ptr (hsl 4 (by decide))
    have t5 : a.tmps[5]? = some (.pointer (some ⟨w.heap.size + 3, 0, none⟩)) := slot_ptr (hsl 5 (by decide))
    show Leaves Try.prog Try.f15 a.tmps _ a.defers (.panicking (refusal c)) x
    rw [hdf]
    refine end_panic rfl t4 t5 (cell_old hb x0) (cell_old hb x1) (cell_old hb x2) (((bcell hb).2 _ 0 (by have := HSZ.out; omega)).trans y2) (by omega) ?_
    unfold Answered
    rw [hc.ans]
    exact ⟨rfl, (below_trans' HB1.out hb).setCell (by simp only; omega) _⟩
  case rgL =>
    rintro ⟨a, x, h⟩
    have h' : Answered s okI (countL s k) w .outgrown x := h
    cases h'.1
  case rgE =>
    intro v0 v1 v2 v3 v4 v5 x hk
    obtain ⟨rfl, rfl, rfl, ⟨b, m, rfl, hbb, hbm, hv, hoi, hbd⟩, rfl, rfl, hx⟩ := hk
    simp only [List.drop_succ_cons, List.drop_zero, Act.put, List.setIfInBounds_toArray, List.set_cons_succ, List.set_cons_zero]
    have hx : Below w1.heap.size w1 x := hx
    subst hoi
    have hfit := fit_of_valid HM3.out hv
    have hme := measured_any b m s (fun _ => False) 85 (.agg #[.int .i64 k]) 100 (fun l => countAt l k) x hfit hbd (fun _ => by kernel_rfl) (fun _ => by kernel_rfl) (enters_of Try.func100 (by kernel_rfl) rfl)
      (fun A X v t ht hA hp => counted_any k _ v _ A hp (by rw [day_len]; have := hfit.sheep; omega))
    have z0 := cell_old hx x0
    have z1 := cell_old hx x1
    have z2 := cell_old hx x2
    have u0 := ((bcell hx).2 (w.heap.size + 2) 0 (by have := HSZ.out; omega)).trans y0
    have u1 := ((bcell hx).2 (w.heap.size + 2) 1 (by have := HSZ.out; omega)).trans y1
    have u2 := ((bcell hx).2 (w.heap.size + 3) 0 (by have := HSZ.out; omega)).trans y2
    have hL : ((truthsL s (everyB s)).map fun t => countAt (day s t) k) = countL s k := rfl
    obtain ⟨L, hLL⟩ : ∃ L, countL s k = L := ⟨_, rfl⟩
    rw [hLL] at hL ⊢
    rw [hL] at hme
    have hwx : Below w.heap.size w x := below_trans' HB1.out hx
    have hxs : w1.heap.size ≤ x.heap.size := hx.size
    have HWX := Lib.hid hwx
    have HLL := Lib.hid hLL
    have HXS := Lib.hid hxs
    clear hwx hxs hx hL hLL hbd e0 e1 e2 e3 e4 e5 e6 e7 e8 ek x0 x1 x2 y0 y1 y2 hk1
    have n2 : w.heap.size + 2 ≠ m := by have := HSZ.out; omega
    have n3 : w.heap.size + 3 ≠ m := by have := HSZ.out; omega
    have hlt2 : w.heap.size + 2 < x.heap.size := by have := HSZ.out; have := HXS.out; omega
    have hlt3 : w.heap.size + 3 < x.heap.size := by have := HSZ.out; have := HXS.out; omega
    have hmB : ∀ (y : World), Frm (fun k => k = m) x y → Below w.heap.size w y := fun _ hf => HWX.out.trans (hf.below (fun k hk => by have := HSZ.out; omega) HWX.out.size)
    have HMB := Lib.hid hmB
    clear hmB
    by_cases hl : L = []
    · subst hl
      simp only [toldE, if_pos] at hme
      have HME := Lib.hid hme
      have hrf : Refuses s true [] 10 := .inr (.inr ⟨hv, rfl, rfl, rfl⟩)
      have HRF := Lib.hid hrf
      clear hme hrf
      go_wp2_with (go_at_call 44; refine HME.out.mono ?_; rintro e y ⟨rfl, hon⟩
                   have z0 := hon.cell z0 n2
                   have z1 := hon.cell z1 n2
                   have z2 := hon.cell z2 n3
                   have u2 := (hon.frm.frozen hlt3 n3).trans u2
                   have HON := Lib.hid hon; clear hon)
      refine end_panic rfl rfl rfl z0 z1 z2 u2 (by omega) ?_
      unfold Answered
      rw [HRF.out.ans]
      exact ⟨rfl, (HMB.out _ HON.out.frm).setCell (by simp only; omega) _⟩
    · obtain ⟨jl, hjl⟩ : ∃ x, joinedL (L.map fun n => (n, n)) = x := ⟨_, rfl⟩
      simp only [toldE, if_neg hl, hjl] at hme
      have han : ansE s true L = (jl, 0) := by rw [← hjl]; exact ans_told hv rfl hl
      have HAN := Lib.hid han
      have HME := Lib.hid hme
      clear hme han hjl
      go_wp2_with (go_at_call 44; refine HME.out.mono ?_; rintro e y ⟨rfl, hon⟩
                   have z0 := hon.cell z0 n2
                   have z1 := hon.cell z1 n2
                   have z2 := hon.cell z2 n3
                   have u0 := (hon.frm.frozen hlt2 n2).trans u0
                   have u1 := (hon.frm.frozen hlt2 n2).trans u1
                   have u2 := (hon.frm.frozen hlt3 n3).trans u2
                   have HON := Lib.hid hon; clear hon)
      refine end_ok (lo := jl.1) (hi := jl.2) (c := 0) rfl rfl rfl (by simp [go_sem, z0, z1, z2]) (by simp [go_sem, z0, z1, z2]) (by simp [go_sem, z0, z1, z2]) ?_
      unfold Answered
      try rw [HLL.out]
      rw [HAN.out]
      exact ⟨rfl, (((HMB.out _ HON.out.frm).setCell (by simp only; omega) _).setCell (by simp only; omega) _).setCell (by simp only; omega) _⟩
end Go.Proofs.Ytojbkpnkcpcioaa
/- The walk of Begun. -/
namespace Go.Proofs.Ytojbkpnkcpcioaa
open Go.RowKit Go.Sh Go.Sh.Stand Go.Shelf

def begunL (s : Stand) (k : Int) : List Int := (truthsL s (everyB s)).map fun t => begunIn (day s t) k

set_option maxHeartbeats 400000 in
theorem begun1_any (b Bk : Nat) (ao : Option Addr) (n cap : Nat) (k : Int) (w : World) (hb : w.cell? ⟨b, 6, none⟩ = some (.slice ao n cap)) (hk : w.cell? ⟨Bk, 0, none⟩ = some (.int .i64 k)) (hn : n < 1000) :
    Calls Try.prog 57 #[.pointer (some ⟨b, 0, none⟩), .pointer (some ⟨Bk, 0, none⟩)] w fun e w' => e = .returned (.bool (inB k 0 (n - 1))) ∧ Below w.heap.size w w' := by
  have HS := Lib.hid (isRun_any b ao n cap k w hb hn)
  go_enter Try.func57, Try.ntmps57
  go_wp2_with (go_at_call 58; refine HS.out.mono ?_; rintro e w' ⟨rfl, rfl⟩)
  go_ret
  exact ⟨rfl, Below.refl _ _⟩

set_option maxRecDepth 100000 in
set_option maxHeartbeats 1000000 in
theorem begun_any (a0 b0 a1 b1 a2 b2 : Int) (rv sv lv : Value) (runs : List (Int × Int)) (sheep : List Int) (looks : List (Int × Int × Int)) (k : Int) (w : World)
    (hr : Prs w w.heap.size rv runs) (hsh : Ints w w.heap.size sv sheep) (hl : Trs w w.heap.size lv looks) (s : Stand) (hs : s = ⟨[(a0, b0), (a1, b1), (a2, b2)], runs, sheep, looks⟩) :
    Calls Try.prog 19 #[.agg #[.int .i64 a0, .int .i64 b0, .int .i64 a1, .int .i64 b1, .int .i64 a2, .int .i64 b2, rv, sv, lv], .int .i64 k] w (Answered s (inB k 0 (runs.length - 1)) (begunL s k) w) := by
  obtain ⟨w1, hw1⟩ : ∃ x, (((w.alloc (.cells #[.int .i64 a0, .int .i64 b0, .int .i64 a1, .int .i64 b1, .int .i64 a2, .int .i64 b2, rv, sv, lv] 29)).alloc (.cells #[.int .i64 k] 3)).alloc (.cells #[.int .i64 0, .int .i64 0] 23)).alloc (.cells #[.int .i64 0] 32) = x := ⟨_, rfl⟩
  have hb1 : Below w.heap.size w w1 := by rw [← hw1]; exact ((below_two _ _ _).alloc (by simp; omega) _).alloc (by simp; omega) _
  have hsz1 : w1.heap.size = w.heap.size + 4 := by rw [← hw1]; simp
  have hk1 : w1.cell? ⟨w.heap.size + 1, 0, none⟩ = some (.int .i64 k) := by rw [← hw1]; simp [go_sem]
  have x0 : w1.cell? ⟨w.heap.size + 2, 0, none⟩ = some (.int .i64 0) := by rw [← hw1]; simp [go_sem]
  have x1 : w1.cell? ⟨w.heap.size + 2, 1, none⟩ = some (.int .i64 0) := by rw [← hw1]; simp [go_sem]
  have x2 : w1.cell? ⟨w.heap.size + 3, 0, none⟩ = some (.int .i64 0) := by rw [← hw1]; simp [go_sem]
  have y0 : w1.frozen? ⟨w.heap.size + 2, 0, none⟩ = false := by rw [← hw1]; simp [go_sem]
  have y1 : w1.frozen? ⟨w.heap.size + 2, 1, none⟩ = false := by rw [← hw1]; simp [go_sem]
  have y2 : w1.frozen? ⟨w.heap.size + 3, 0, none⟩ = false := by rw [← hw1]; simp [go_sem]
  have hc1 : ∀ j v, #[Value.int .i64 a0, .int .i64 b0, .int .i64 a1, .int .i64 b1, .int .i64 a2, .int .i64 b2, rv, sv, lv][j]? = some v → w1.cell? ⟨w.heap.size, j, none⟩ = some v := by
    intro j v h; rw [← hw1]
    rw [World.cell?_alloc_lt _ _ _ (by simp; omega), World.cell?_alloc_lt _ _ _ (by simp; omega), World.cell?_alloc_lt _ _ _ (by simp), World.cell?_alloc_new]; exact h
  have hr1 := hr.later hb1
  have hsh1 := hsh.later hb1
  have hl1 := hl.later hb1
  have e0 : ∀ x, Below w1.heap.size w1 x → x.cell? ⟨w.heap.size, 0, none⟩ = some (.int .i64 a0) := fun x h => cell_old h (hc1 0 _ rfl)
  have e1 : ∀ x, Below w1.heap.size w1 x → x.cell? ⟨w.heap.size, 1, none⟩ = some (.int .i64 b0) := fun x h => cell_old h (hc1 1 _ rfl)
  have e2 : ∀ x, Below w1.heap.size w1 x → x.cell? ⟨w.heap.size, 2, none⟩ = some (.int .i64 a1) := fun x h => cell_old h (hc1 2 _ rfl)
  have e3 : ∀ x, Below w1.heap.size w1 x → x.cell? ⟨w.heap.size, 3, none⟩ = some (.int .i64 b1) := fun x h => cell_old h (hc1 3 _ rfl)
  have e4 : ∀ x, Below w1.heap.size w1 x → x.cell? ⟨w.heap.size, 4, none⟩ = some (.int .i64 a2) := fun x h => cell_old h (hc1 4 _ rfl)
  have e5 : ∀ x, Below w1.heap.size w1 x → x.cell? ⟨w.heap.size, 5, none⟩ = some (.int .i64 b2) := fun x h => cell_old h (hc1 5 _ rfl)
  have e6 : ∀ x, Below w1.heap.size w1 x → x.cell? ⟨w.heap.size, 6, none⟩ = some rv := fun x h => cell_old h (hc1 6 _ rfl)
  have e7 : ∀ x, Below w1.heap.size w1 x → x.cell? ⟨w.heap.size, 7, none⟩ = some sv := fun x h => cell_old h (hc1 7 _ rfl)
  have e8 : ∀ x, Below w1.heap.size w1 x → x.cell? ⟨w.heap.size, 8, none⟩ = some lv := fun x h => cell_old h (hc1 8 _ rfl)
  have ek : ∀ x, Below w1.heap.size w1 x → x.cell? ⟨w.heap.size + 1, 0, none⟩ = some (.int .i64 k) := fun x h => cell_old h hk1
  have hsheep : s.sheep = sheep := by rw [hs]
  have hmins3 : s.mins.length = 3 := by rw [hs]; rfl
  obtain ⟨okI, hok⟩ : ∃ x, inB k 0 (runs.length - 1) = x := ⟨_, rfl⟩
  have hopen : ∀ x, Below w1.heap.size w1 x → Calls Try.prog 41 #[.agg #[.int .i64 a0, .int .i64 b0, .int .i64 a1, .int .i64 b1, .int .i64 a2, .int .i64 b2, rv, sv, lv], .func (.func 57) #[] #[.pointer (some ⟨w.heap.size + 1, 0, none⟩)]] x (OpenPost s okI x) := by
    intro x hx
    rw [hs]
    refine open_any a0 b0 a1 b1 a2 b2 rv sv lv runs sheep looks 57 #[.pointer (some ⟨w.heap.size + 1, 0, none⟩)] okI x (hr1.later hx) (hsh1.later hx) (hl1.later hx) (enters_of Try.func57 (by kernel_rfl) rfl) ?_
    intro A b m hA hBd hv
    obtain ⟨v7, h7, ⟨ao, cap, rfl, hln, _⟩, _⟩ := hBd.runs
    have hfit := (fit_of_valid rfl hv).runs
    simp only at hfit h7
    have := begun1_any b (w.heap.size + 1) ao runs.length cap k A h7 (cell_old hA (cell_old hx hk1)) (by omega)
    rw [hok] at this
    exact this
  rw [hok]
  have HO := Lib.hid hopen
  have HS := Lib.hid hs
  have HOK := Lib.hid hok
  have HB1 := Lib.hid hb1
  have HM3 := Lib.hid hmins3
  have HSH := Lib.hid hsheep
  have HSZ := Lib.hid hsz1
  clear hopen hs hok hb1 hr hsh hl hr1 hsh1 hl1 hc1 hmins3 hsheep hsz1
  go_enter_defers Try.func19, Try.ntmps19
  go_wp2
  clear hw1
  simp only [Nat.add_assoc, Nat.reduceAdd]
  refine wp_region_rel (sz := 13) 6 (fun x y => Below x.heap.size x y) [cV ?rv0, cV ?rv1, fun v x => ∃ b m, v = .pointer (some ⟨b, 0, none⟩) ∧ w1.heap.size ≤ b ∧ w1.heap.size ≤ m ∧ validB s = true ∧ okI = true ∧ Board x b m s (fun _ => False), cV ?rv3, cV ?rv4, cV ?rv5]
    (fun ch x => ∃ c, ch = refusal c ∧ Refuses s okI (begunL s k) c ∧ Below w1.heap.size w1 x) (by kernel_rfl) rfl (by kernel_rfl) ((Below.refl _ _).drew) (fun h1 h2 => below_trans' h1 h2) ?rgS ?rgO ?rgP ?rgL ?rgE
  case rgO =>
    refine ⟨?_, ?_, ?_, ?_, ?_, ?_, trivial⟩
    all_goals
      intro a x hR hA
      rw [if_pos (by rfl)]
      have hR : Below w1.heap.size w1 x := hR
    · have s2 : a.tmps[2]?.getD undef = .pointer (some ⟨w.heap.size, 0, none⟩) := hA.base 2 (by decide)
      clear hA
      refine rg_val_wide _ ?_ (by simp) rfl (Below.refl _ _); go_simp; rfl
    · have s2 : a.tmps[3]?.getD undef = .pointer (some ⟨w.heap.size + 1, 0, none⟩) := hA.base 3 (by decide)
      clear hA
      refine rg_val_wide _ ?_ (by simp) rfl (Below.refl _ _); go_simp; rfl
    · have s6 : a.tmps[6]?.getD undef = _ := hA.pre 0 _ rfl (by kernel_rfl)
      have s7 : a.tmps[7]?.getD undef = _ := hA.pre 1 _ rfl (by kernel_rfl)
      clear hA
      refine rg_call_wide rfl (by go_simp; exact ⟨rfl, rfl⟩) ?_
      refine (HO.out x hR).mono ?_
      rintro e w2 (⟨h1, rfl, hb⟩ | ⟨h1, h2, rfl, hb⟩ | ⟨h1, h2, b, m, rfl, hb, hbb, hmm, hne, hbd⟩)
      · exact ⟨1, rfl, .inl ⟨h1, rfl⟩, below_trans' hR hb⟩
      · exact ⟨2, rfl, .inr (.inl ⟨h1, h2, rfl⟩), below_trans' hR hb⟩
      · exact ⟨⟨b, m, rfl, Nat.le_trans hR.size hbb, Nat.le_trans hR.size hmm, h1, h2, hbd⟩, hb⟩
    · have s2 : a.tmps[3]?.getD undef = .pointer (some ⟨w.heap.size + 1, 0, none⟩) := hA.base 3 (by decide)
      clear hA
      refine rg_val_wide _ ?_ (by simp) rfl (Below.refl _ _); go_simp; rfl
    · have s6 : a.tmps[9]?.getD undef = _ := hA.pre 3 _ rfl (by kernel_rfl)
      clear hA
      refine rg_val_wide _ ?_ (by simp) rfl (Below.refl _ _); go_simp; rfl
    · have s6 : a.tmps[10]?.getD undef = _ := hA.pre 4 _ rfl (by kernel_rfl)
      clear hA
      refine rg_val_wide _ ?_ (by simp) rfl (Below.refl _ _); go_simp; rfl
  case rgS =>
    intro V hV u x y hR hu
    simp only [List.mem_cons, List.not_mem_nil, or_false] at hV
    rcases hV with rfl | rfl | rfl | rfl | rfl | rfl
    all_goals first | exact hu | (obtain ⟨b, m, h1, h2, h3, h4, h5, h6⟩ := hu; exact ⟨b, m, h1, h2, h3, h4, h5, h6.later hR⟩)
  case rgP =>
    rintro ch a x ⟨c, rfl, hc, hb⟩ hsl hdf
    have t4 : a.tmps[4]? = some (.pointer (some ⟨w.heap.size + 2, 0, none⟩)) := slot_ptr (hsl 4 (by decide))
    have t5 : a.tmps[5]? = some (.pointer (some ⟨w.heap.size + 3, 0, none⟩)) := slot_ptr (hsl 5 (by decide))
    show Leaves Try.prog Try.f19 a.tmps _ a.defers (.panicking (refusal c)) x
    rw [hdf]
    refine end_panic rfl t4 t5 (cell_old hb x0) (cell_old hb x1) (cell_old hb x2) (((bcell hb).2 _ 0 (by have := HSZ.out; omega)).trans y2) (by omega) ?_
    unfold Answered
    rw [hc.ans]
    exact ⟨rfl, (below_trans' HB1.out hb).setCell (by simp only; omega) _⟩
  case rgL =>
    rintro ⟨a, x, h⟩
    have h' : Answered s okI (begunL s k) w .outgrown x := h
    cases h'.1
  case rgE =>
    intro v0 v1 v2 v3 v4 v5 x hk
    obtain ⟨rfl, rfl, rfl, ⟨b, m, rfl, hbb, hbm, hv, hoi, hbd⟩, rfl, rfl, hx⟩ := hk
    simp only [List.drop_succ_cons, List.drop_zero, Act.put, List.setIfInBounds_toArray, List.set_cons_succ, List.set_cons_zero]
    have hx : Below w1.heap.size w1 x := hx
    subst hoi
    have hfit := fit_of_valid HM3.out hv
    have hme := measured_any b m s (fun _ => False) 91 (.agg #[.int .i64 k]) 119 (fun l => begunIn l k) x hfit hbd (fun _ => by kernel_rfl) (fun _ => by kernel_rfl) (enters_of Try.func119 (by kernel_rfl) rfl)
      (fun A X v t ht hA hp => begunIn_any k _ v _ A hp (by rw [day_len]; have := hfit.sheep; omega))
    have z0 := cell_old hx x0
    have z1 := cell_old hx x1
    have z2 := cell_old hx x2
    have u0 := ((bcell hx).2 (w.heap.size + 2) 0 (by have := HSZ.out; omega)).trans y0
    have u1 := ((bcell hx).2 (w.heap.size + 2) 1 (by have := HSZ.out; omega)).trans y1
    have u2 := ((bcell hx).2 (w.heap.size + 3) 0 (by have := HSZ.out; omega)).trans y2
    have hL : ((truthsL s (everyB s)).map fun t => begunIn (day s t) k) = begunL s k := rfl
    obtain ⟨L, hLL⟩ : ∃ L, begunL s k = L := ⟨_, rfl⟩
    rw [hLL] at hL ⊢
    rw [hL] at hme
    have hwx : Below w.heap.size w x := below_trans' HB1.out hx
    have hxs : w1.heap.size ≤ x.heap.size := hx.size
    have HWX := Lib.hid hwx
    have HLL := Lib.hid hLL
    have HXS := Lib.hid hxs
    clear hwx hxs hx hL hLL hbd e0 e1 e2 e3 e4 e5 e6 e7 e8 ek x0 x1 x2 y0 y1 y2 hk1
    have n2 : w.heap.size + 2 ≠ m := by have := HSZ.out; omega
    have n3 : w.heap.size + 3 ≠ m := by have := HSZ.out; omega
    have hlt2 : w.heap.size + 2 < x.heap.size := by have := HSZ.out; have := HXS.out; omega
    have hlt3 : w.heap.size + 3 < x.heap.size := by have := HSZ.out; have := HXS.out; omega
    have hmB : ∀ (y : World), Frm (fun k => k = m) x y → Below w.heap.size w y := fun _ hf => HWX.out.trans (hf.below (fun k hk => by have := HSZ.out; omega) HWX.out.size)
    have HMB := Lib.hid hmB
    clear hmB
    by_cases hl : L = []
    · subst hl
      simp only [toldE, if_pos] at hme
      have HME := Lib.hid hme
      have hrf : Refuses s true [] 10 := .inr (.inr ⟨hv, rfl, rfl, rfl⟩)
      have HRF := Lib.hid hrf
      clear hme hrf
      go_wp2_with (go_at_call 44; refine HME.out.mono ?_; rintro e y ⟨rfl, hon⟩
                   have z0 := hon.cell z0 n2
                   have z1 := hon.cell z1 n2
                   have z2 := hon.cell z2 n3
                   have u2 := (hon.frm.frozen hlt3 n3).trans u2
                   have HON := Lib.hid hon; clear hon)
      refine end_panic rfl rfl rfl z0 z1 z2 u2 (by omega) ?_
      unfold Answered
      rw [HRF.out.ans]
      exact ⟨rfl, (HMB.out _ HON.out.frm).setCell (by simp only; omega) _⟩
    · obtain ⟨jl, hjl⟩ : ∃ x, joinedL (L.map fun n => (n, n)) = x := ⟨_, rfl⟩
      simp only [toldE, if_neg hl, hjl] at hme
      have han : ansE s true L = (jl, 0) := by rw [← hjl]; exact ans_told hv rfl hl
      have HAN := Lib.hid han
      have HME := Lib.hid hme
      clear hme han hjl
      go_wp2_with (go_at_call 44; refine HME.out.mono ?_; rintro e y ⟨rfl, hon⟩
                   have z0 := hon.cell z0 n2
                   have z1 := hon.cell z1 n2
                   have z2 := hon.cell z2 n3
                   have u0 := (hon.frm.frozen hlt2 n2).trans u0
                   have u1 := (hon.frm.frozen hlt2 n2).trans u1
                   have u2 := (hon.frm.frozen hlt3 n3).trans u2
                   have HON := Lib.hid hon; clear hon)
      refine end_ok (lo := jl.1) (hi := jl.2) (c := 0) rfl rfl rfl (by simp [go_sem, z0, z1, z2]) (by simp [go_sem, z0, z1, z2]) (by simp [go_sem, z0, z1, z2]) ?_
      unfold Answered
      try rw [HLL.out]
      rw [HAN.out]
      exact ⟨rfl, (((HMB.out _ HON.out.frm).setCell (by simp only; omega) _).setCell (by simp only; omega) _).setCell (by simp only; omega) _⟩
end Go.Proofs.Ytojbkpnkcpcioaa
/- The walk of Over. -/
namespace Go.Proofs.Ytojbkpnkcpcioaa
open Go.RowKit Go.Sh Go.Sh.Stand Go.Shelf

def overL (s : Stand) (k : Int) : List Int := (truthsL s (everyB s)).map fun t => overOf (day s t) k.toNat (s.runs.getD k.toNat (0, 0)).2

set_option maxHeartbeats 400000 in
theorem over1_any (b Bk : Nat) (ao : Option Addr) (n cap : Nat) (k : Int) (w : World) (hb : w.cell? ⟨b, 6, none⟩ = some (.slice ao n cap)) (hk : w.cell? ⟨Bk, 0, none⟩ = some (.int .i64 k)) (hn : n < 1000) :
    Calls Try.prog 61 #[.pointer (some ⟨b, 0, none⟩), .pointer (some ⟨Bk, 0, none⟩)] w fun e w' => e = .returned (.bool (inB k 0 (n - 1))) ∧ Below w.heap.size w w' := by
  have HS := Lib.hid (isRun_any b ao n cap k w hb hn)
  go_enter Try.func61, Try.ntmps61
  go_wp2_with (go_at_call 58; refine HS.out.mono ?_; rintro e w' ⟨rfl, rfl⟩)
  go_ret
  exact ⟨rfl, Below.refl _ _⟩

set_option maxRecDepth 100000 in
set_option maxHeartbeats 1000000 in
theorem overX_any (a0 b0 a1 b1 a2 b2 : Int) (rv sv lv : Value) (runs : List (Int × Int)) (sheep : List Int) (looks : List (Int × Int × Int)) (k : Int) (w : World)
    (hr : Prs w w.heap.size rv runs) (hsh : Ints w w.heap.size sv sheep) (hl : Trs w w.heap.size lv looks) (s : Stand) (hs : s = ⟨[(a0, b0), (a1, b1), (a2, b2)], runs, sheep, looks⟩) :
    Calls Try.prog 21 #[.agg #[.int .i64 a0, .int .i64 b0, .int .i64 a1, .int .i64 b1, .int .i64 a2, .int .i64 b2, rv, sv, lv], .int .i64 k] w (Answered s (inB k 0 (runs.length - 1)) (overL s k) w) := by
  obtain ⟨w1, hw1⟩ : ∃ x, (((w.alloc (.cells #[.int .i64 a0, .int .i64 b0, .int .i64 a1, .int .i64 b1, .int .i64 a2, .int .i64 b2, rv, sv, lv] 29)).alloc (.cells #[.int .i64 k] 3)).alloc (.cells #[.int .i64 0, .int .i64 0] 23)).alloc (.cells #[.int .i64 0] 32) = x := ⟨_, rfl⟩
  have hb1 : Below w.heap.size w w1 := by rw [← hw1]; exact ((below_two _ _ _).alloc (by simp; omega) _).alloc (by simp; omega) _
  have hsz1 : w1.heap.size = w.heap.size + 4 := by rw [← hw1]; simp
  have hk1 : w1.cell? ⟨w.heap.size + 1, 0, none⟩ = some (.int .i64 k) := by rw [← hw1]; simp [go_sem]
  have x0 : w1.cell? ⟨w.heap.size + 2, 0, none⟩ = some (.int .i64 0) := by rw [← hw1]; simp [go_sem]
  have x1 : w1.cell? ⟨w.heap.size + 2, 1, none⟩ = some (.int .i64 0) := by rw [← hw1]; simp [go_sem]
  have x2 : w1.cell? ⟨w.heap.size + 3, 0, none⟩ = some (.int .i64 0) := by rw [← hw1]; simp [go_sem]
  have y0 : w1.frozen? ⟨w.heap.size + 2, 0, none⟩ = false := by rw [← hw1]; simp [go_sem]
  have y1 : w1.frozen? ⟨w.heap.size + 2, 1, none⟩ = false := by rw [← hw1]; simp [go_sem]
  have y2 : w1.frozen? ⟨w.heap.size + 3, 0, none⟩ = false := by rw [← hw1]; simp [go_sem]
  have hc1 : ∀ j v, #[Value.int .i64 a0, .int .i64 b0, .int .i64 a1, .int .i64 b1, .int .i64 a2, .int .i64 b2, rv, sv, lv][j]? = some v → w1.cell? ⟨w.heap.size, j, none⟩ = some v := by
    intro j v h; rw [← hw1]
    rw [World.cell?_alloc_lt _ _ _ (by simp; omega), World.cell?_alloc_lt _ _ _ (by simp; omega), World.cell?_alloc_lt _ _ _ (by simp), World.cell?_alloc_new]; exact h
  have hr1 := hr.later hb1
  have hsh1 := hsh.later hb1
  have hl1 := hl.later hb1
  have e0 : ∀ x, Below w1.heap.size w1 x → x.cell? ⟨w.heap.size, 0, none⟩ = some (.int .i64 a0) := fun x h => cell_old h (hc1 0 _ rfl)
  have e1 : ∀ x, Below w1.heap.size w1 x → x.cell? ⟨w.heap.size, 1, none⟩ = some (.int .i64 b0) := fun x h => cell_old h (hc1 1 _ rfl)
  have e2 : ∀ x, Below w1.heap.size w1 x → x.cell? ⟨w.heap.size, 2, none⟩ = some (.int .i64 a1) := fun x h => cell_old h (hc1 2 _ rfl)
  have e3 : ∀ x, Below w1.heap.size w1 x → x.cell? ⟨w.heap.size, 3, none⟩ = some (.int .i64 b1) := fun x h => cell_old h (hc1 3 _ rfl)
  have e4 : ∀ x, Below w1.heap.size w1 x → x.cell? ⟨w.heap.size, 4, none⟩ = some (.int .i64 a2) := fun x h => cell_old h (hc1 4 _ rfl)
  have e5 : ∀ x, Below w1.heap.size w1 x → x.cell? ⟨w.heap.size, 5, none⟩ = some (.int .i64 b2) := fun x h => cell_old h (hc1 5 _ rfl)
  have e6 : ∀ x, Below w1.heap.size w1 x → x.cell? ⟨w.heap.size, 6, none⟩ = some rv := fun x h => cell_old h (hc1 6 _ rfl)
  have e7 : ∀ x, Below w1.heap.size w1 x → x.cell? ⟨w.heap.size, 7, none⟩ = some sv := fun x h => cell_old h (hc1 7 _ rfl)
  have e8 : ∀ x, Below w1.heap.size w1 x → x.cell? ⟨w.heap.size, 8, none⟩ = some lv := fun x h => cell_old h (hc1 8 _ rfl)
  have ek : ∀ x, Below w1.heap.size w1 x → x.cell? ⟨w.heap.size + 1, 0, none⟩ = some (.int .i64 k) := fun x h => cell_old h hk1
  have hsheep : s.sheep = sheep := by rw [hs]
  have hmins3 : s.mins.length = 3 := by rw [hs]; rfl
  obtain ⟨okI, hok⟩ : ∃ x, inB k 0 (runs.length - 1) = x := ⟨_, rfl⟩
  have hopen : ∀ x, Below w1.heap.size w1 x → Calls Try.prog 41 #[.agg #[.int .i64 a0, .int .i64 b0, .int .i64 a1, .int .i64 b1, .int .i64 a2, .int .i64 b2, rv, sv, lv], .func (.func 61) #[] #[.pointer (some ⟨w.heap.size + 1, 0, none⟩)]] x (OpenPost s okI x) := by
    intro x hx
    rw [hs]
    refine open_any a0 b0 a1 b1 a2 b2 rv sv lv runs sheep looks 61 #[.pointer (some ⟨w.heap.size + 1, 0, none⟩)] okI x (hr1.later hx) (hsh1.later hx) (hl1.later hx) (enters_of Try.func61 (by kernel_rfl) rfl) ?_
    intro A b m hA hBd hv
    obtain ⟨v7, h7, ⟨ao, cap, rfl, hln, _⟩, _⟩ := hBd.runs
    have hfit := (fit_of_valid rfl hv).runs
    simp only at hfit h7
    have := over1_any b (w.heap.size + 1) ao runs.length cap k A h7 (cell_old hA (cell_old hx hk1)) (by omega)
    rw [hok] at this
    exact this
  rw [hok]
  have HO := Lib.hid hopen
  have HS := Lib.hid hs
  have HOK := Lib.hid hok
  have HB1 := Lib.hid hb1
  have HM3 := Lib.hid hmins3
  have HSH := Lib.hid hsheep
  have HSZ := Lib.hid hsz1
  clear hopen hs hok hb1 hr hsh hl hr1 hsh1 hl1 hc1 hmins3 hsheep hsz1
  go_enter_defers Try.func21, Try.ntmps21
  go_wp2
  clear hw1
  simp only [Nat.add_assoc, Nat.reduceAdd]
  refine wp_region_rel (sz := 14) 7 (fun x y => Below x.heap.size x y) [cV ?rv0, cV ?rv1, fun v x => ∃ b m, v = .pointer (some ⟨b, 0, none⟩) ∧ w1.heap.size ≤ b ∧ w1.heap.size ≤ m ∧ validB s = true ∧ okI = true ∧ Board x b m s (fun _ => False), cV ?rv3, cV ?rv4, cV ?rv5, cV ?rv6]
    (fun ch x => ∃ c, ch = refusal c ∧ Refuses s okI (overL s k) c ∧ Below w1.heap.size w1 x) (by kernel_rfl) rfl (by kernel_rfl) ((Below.refl _ _).drew) (fun h1 h2 => below_trans' h1 h2) ?rgS ?rgO ?rgP ?rgL ?rgE
  case rgO =>
    refine ⟨?_, ?_, ?_, ?_, ?_, ?_, ?_, trivial⟩
    all_goals
      intro a x hR hA
      rw [if_pos (by rfl)]
      have hR : Below w1.heap.size w1 x := hR
    · have s2 : a.tmps[2]?.getD undef = .pointer (some ⟨w.heap.size, 0, none⟩) := hA.base 2 (by decide)
      clear hA
      refine rg_val_wide _ ?_ (by simp) rfl (Below.refl _ _); go_simp; rfl
    · have s2 : a.tmps[3]?.getD undef = .pointer (some ⟨w.heap.size + 1, 0, none⟩) := hA.base 3 (by decide)
      clear hA
      refine rg_val_wide _ ?_ (by simp) rfl (Below.refl _ _); go_simp; rfl
    · have s6 : a.tmps[6]?.getD undef = _ := hA.pre 0 _ rfl (by kernel_rfl)
      have s7 : a.tmps[7]?.getD undef = _ := hA.pre 1 _ rfl (by kernel_rfl)
      clear hA
      refine rg_call_wide rfl (by go_simp; exact ⟨rfl, rfl⟩) ?_
      refine (HO.out x hR).mono ?_
      rintro e w2 (⟨h1, rfl, hb⟩ | ⟨h1, h2, rfl, hb⟩ | ⟨h1, h2, b, m, rfl, hb, hbb, hmm, hne, hbd⟩)
      · exact ⟨1, rfl, .inl ⟨h1, rfl⟩, below_trans' hR hb⟩
      · exact ⟨2, rfl, .inr (.inl ⟨h1, h2, rfl⟩), below_trans' hR hb⟩
      · exact ⟨⟨b, m, rfl, Nat.le_trans hR.size hbb, Nat.le_trans hR.size hmm, h1, h2, hbd⟩, hb⟩
    · have s2 : a.tmps[3]?.getD undef = .pointer (some ⟨w.heap.size + 1, 0, none⟩) := hA.base 3 (by decide)
      clear hA
      refine rg_val_wide _ ?_ (by simp) rfl (Below.refl _ _); go_simp; rfl
    · have s6 : a.tmps[9]?.getD undef = _ := hA.pre 3 _ rfl (by kernel_rfl)
      clear hA
      refine rg_val_wide _ ?_ (by simp) rfl (Below.refl _ _); go_simp; rfl
    · have s6 : a.tmps[10]?.getD undef = _ := hA.pre 4 _ rfl (by kernel_rfl)
      clear hA
      refine rg_val_wide _ ?_ (by simp) rfl (Below.refl _ _); go_simp; rfl
    · have s6 : a.tmps[11]?.getD undef = _ := hA.pre 5 _ rfl (by kernel_rfl)
      clear hA
      refine rg_val_wide _ ?_ (by simp) rfl (Below.refl _ _); go_simp; rfl
  case rgS =>
    intro V hV u x y hR hu
    simp only [List.mem_cons, List.not_mem_nil, or_false] at hV
    rcases hV with rfl | rfl | rfl | rfl | rfl | rfl | rfl
    all_goals first | exact hu | (obtain ⟨b, m, h1, h2, h3, h4, h5, h6⟩ := hu; exact ⟨b, m, h1, h2, h3, h4, h5, h6.later hR⟩)
  case rgP =>
    rintro ch a x ⟨c, rfl, hc, hb⟩ hsl hdf
    have t4 : a.tmps[4]? = some (.pointer (some ⟨w.heap.size + 2, 0, none⟩)) := slot_ptr (hsl 4 (by decide))
    have t5 : a.tmps[5]? = some (.pointer (some ⟨w.heap.size + 3, 0, none⟩)) := slot_ptr (hsl 5 (by decide))
    show Leaves Try.prog Try.f21 a.tmps _ a.defers (.panicking (refusal c)) x
    rw [hdf]
    refine end_panic rfl t4 t5 (cell_old hb x0) (cell_old hb x1) (cell_old hb x2) (((bcell hb).2 _ 0 (by have := HSZ.out; omega)).trans y2) (by omega) ?_
    unfold Answered
    rw [hc.ans]
    exact ⟨rfl, (below_trans' HB1.out hb).setCell (by simp only; omega) _⟩
  case rgL =>
    rintro ⟨a, x, h⟩
    have h' : Answered s okI (overL s k) w .outgrown x := h
    cases h'.1
  case rgE =>
    intro v0 v1 v2 v3 v4 v5 v6 x hk
    obtain ⟨rfl, rfl, rfl, rfl, ⟨b, m, rfl, hbb, hbm, hv, hoi, hbd⟩, rfl, rfl, hx⟩ := hk
    simp only [List.drop_succ_cons, List.drop_zero, Act.put, List.setIfInBounds_toArray, List.set_cons_succ, List.set_cons_zero]
    have hx : Below w1.heap.size w1 x := hx
    subst hoi
    have hfit := fit_of_valid HM3.out hv
    have hkn : 0 ≤ k ∧ k.toNat < s.runs.length := by
      have h0 := HOK.out
      have h1 : s.runs = runs := by rw [HS.out]
      rw [h1]
      unfold inB at h0
      simp only [Bool.and_eq_true, decide_eq_true_eq] at h0
      omega
    have hkv : Value.agg #[.int .i64 k] = .agg #[.int .i64 (k.toNat : Int)] := by rw [Int.toNat_of_nonneg hkn.1]
    have HKV := Lib.hid hkv
    clear hkv
    have hbell : 0 ≤ (s.runs.getD k.toNat (0, 0)).2 ∧ (s.runs.getD k.toNat (0, 0)).2 ≤ 1000 := by
      rw [List.getD, List.getElem?_eq_getElem hkn.2]
      have := hfit.runb _ (List.getElem_mem hkn.2)
      simp only [Option.getD_some]; omega
    have hme := measured_any b m s (fun _ => False) 95 (.agg #[.int .i64 k]) 120 (fun l => overOf l k.toNat (s.runs.getD k.toNat (0, 0)).2) x hfit hbd (fun _ => by kernel_rfl) (fun _ => by kernel_rfl) (enters_of Try.func120 (by kernel_rfl) rfl)
      (fun A X v t ht hA hp => by obtain ⟨rv, hr1, hr2, _⟩ := hA.runs; rw [HKV.out]; exact over_any b k.toNat rv s.runs v _ A hr1 hr2 hp (by rw [day_len]; have := hfit.sheep; omega) hkn.2 hbell (day_range hfit ht))
    have z0 := cell_old hx x0
    have z1 := cell_old hx x1
    have z2 := cell_old hx x2
    have u0 := ((bcell hx).2 (w.heap.size + 2) 0 (by have := HSZ.out; omega)).trans y0
    have u1 := ((bcell hx).2 (w.heap.size + 2) 1 (by have := HSZ.out; omega)).trans y1
    have u2 := ((bcell hx).2 (w.heap.size + 3) 0 (by have := HSZ.out; omega)).trans y2
    have hL : ((truthsL s (everyB s)).map fun t => overOf (day s t) k.toNat (s.runs.getD k.toNat (0, 0)).2) = overL s k := rfl
    obtain ⟨L, hLL⟩ : ∃ L, overL s k = L := ⟨_, rfl⟩
    rw [hLL] at hL ⊢
    rw [hL] at hme
    have hwx : Below w.heap.size w x := below_trans' HB1.out hx
    have hxs : w1.heap.size ≤ x.heap.size := hx.size
    have HWX := Lib.hid hwx
    have HLL := Lib.hid hLL
    have HXS := Lib.hid hxs
    clear hwx hxs hx hL hLL hbd e0 e1 e2 e3 e4 e5 e6 e7 e8 ek x0 x1 x2 y0 y1 y2 hk1
    have n2 : w.heap.size + 2 ≠ m := by have := HSZ.out; omega
    have n3 : w.heap.size + 3 ≠ m := by have := HSZ.out; omega
    have hlt2 : w.heap.size + 2 < x.heap.size := by have := HSZ.out; have := HXS.out; omega
    have hlt3 : w.heap.size + 3 < x.heap.size := by have := HSZ.out; have := HXS.out; omega
    have hmB : ∀ (y : World), Frm (fun k => k = m) x y → Below w.heap.size w y := fun _ hf => HWX.out.trans (hf.below (fun k hk => by have := HSZ.out; omega) HWX.out.size)
    have HMB := Lib.hid hmB
    clear hmB
    by_cases hl : L = []
    · subst hl
      simp only [toldE, if_pos] at hme
      have HME := Lib.hid hme
      have hrf : Refuses s true [] 10 := .inr (.inr ⟨hv, rfl, rfl, rfl⟩)
      have HRF := Lib.hid hrf
      clear hme hrf
      go_wp2_with (go_at_call 44; refine HME.out.mono ?_; rintro e y ⟨rfl, hon⟩
                   have z0 := hon.cell z0 n2
                   have z1 := hon.cell z1 n2
                   have z2 := hon.cell z2 n3
                   have u2 := (hon.frm.frozen hlt3 n3).trans u2
                   have HON := Lib.hid hon; clear hon)
      refine end_panic rfl rfl rfl z0 z1 z2 u2 (by omega) ?_
      unfold Answered
      rw [HRF.out.ans]
      exact ⟨rfl, (HMB.out _ HON.out.frm).setCell (by simp only; omega) _⟩
    · obtain ⟨jl, hjl⟩ : ∃ x, joinedL (L.map fun n => (n, n)) = x := ⟨_, rfl⟩
      simp only [toldE, if_neg hl, hjl] at hme
      have han : ansE s true L = (jl, 0) := by rw [← hjl]; exact ans_told hv rfl hl
      have HAN := Lib.hid han
      have HME := Lib.hid hme
      clear hme han hjl
      go_wp2_with (go_at_call 44; refine HME.out.mono ?_; rintro e y ⟨rfl, hon⟩
                   have z0 := hon.cell z0 n2
                   have z1 := hon.cell z1 n2
                   have z2 := hon.cell z2 n3
                   have u0 := (hon.frm.frozen hlt2 n2).trans u0
                   have u1 := (hon.frm.frozen hlt2 n2).trans u1
                   have u2 := (hon.frm.frozen hlt3 n3).trans u2
                   have HON := Lib.hid hon; clear hon)
      refine end_ok (lo := jl.1) (hi := jl.2) (c := 0) rfl rfl rfl (by simp [go_sem, z0, z1, z2]) (by simp [go_sem, z0, z1, z2]) (by simp [go_sem, z0, z1, z2]) ?_
      unfold Answered
      try rw [HLL.out]
      rw [HAN.out]
      exact ⟨rfl, (((HMB.out _ HON.out.frm).setCell (by simp only; omega) _).setCell (by simp only; omega) _).setCell (by simp only; omega) _⟩
end Go.Proofs.Ytojbkpnkcpcioaa
/- The walk of Takes. -/
namespace Go.Proofs.Ytojbkpnkcpcioaa
open Go.RowKit Go.Sh Go.Sh.Stand Go.Shelf

def takesL (s : Stand) (k : Int) : List Int := (truthsL s (everyB s)).map fun t => tk t k

set_option maxHeartbeats 400000 in
theorem takes1_any (b Bk : Nat) (k : Int) (w : World) (hk : w.cell? ⟨Bk, 0, none⟩ = some (.int .i64 k)) :
    Calls Try.prog 52 #[.pointer (some ⟨b, 0, none⟩), .pointer (some ⟨Bk, 0, none⟩)] w fun e w' => e = .returned (.bool (inB k 0 2)) ∧ Below w.heap.size w w' := by
  have HS := Lib.hid (isKind_any k w)
  go_enter Try.func52, Try.ntmps52
  go_wp2_with (go_at_call 53; refine HS.out.mono ?_; rintro e w' ⟨rfl, rfl⟩)
  go_ret
  exact ⟨rfl, Below.refl _ _⟩

set_option maxHeartbeats 400000 in
theorem takes2_any (t : Shearer) (Bk : Nat) (k : Int) (w : World) (hk : w.cell? ⟨Bk, 0, none⟩ = some (.int .i64 k)) (h : 0 ≤ k ∧ k ≤ 2) :
    Calls Try.prog 55 #[keyV t, .pointer (some ⟨Bk, 0, none⟩)] w fun e w' => e = .returned (.int .i64 (tk t k)) ∧ Below w.heap.size w w' := by
  obtain ⟨t0, t1, t2⟩ := t
  have hlt : Bk < w.heap.size := World.block_lt_of_cell? _ _ hk
  unfold keyV
  obtain rfl | rfl | rfl : k = 0 ∨ k = 1 ∨ k = 2 := by omega
  all_goals
    go_enter Try.func55, Try.ntmps55
    go_wp2
    go_ret
    exact ⟨rfl, box_below _ _⟩

set_option maxRecDepth 100000 in
set_option maxHeartbeats 1000000 in
theorem takes_any (a0 b0 a1 b1 a2 b2 : Int) (rv sv lv : Value) (runs : List (Int × Int)) (sheep : List Int) (looks : List (Int × Int × Int)) (k : Int) (w : World)
    (hr : Prs w w.heap.size rv runs) (hsh : Ints w w.heap.size sv sheep) (hl : Trs w w.heap.size lv looks) (s : Stand) (hs : s = ⟨[(a0, b0), (a1, b1), (a2, b2)], runs, sheep, looks⟩) :
    Calls Try.prog 17 #[.agg #[.int .i64 a0, .int .i64 b0, .int .i64 a1, .int .i64 b1, .int .i64 a2, .int .i64 b2, rv, sv, lv], .int .i64 k] w (Answered s (inB k 0 2) (takesL s k) w) := by
  obtain ⟨w1, hw1⟩ : ∃ x, (((w.alloc (.cells #[.int .i64 a0, .int .i64 b0, .int .i64 a1, .int .i64 b1, .int .i64 a2, .int .i64 b2, rv, sv, lv] 29)).alloc (.cells #[.int .i64 k] 3)).alloc (.cells #[.int .i64 0, .int .i64 0] 23)).alloc (.cells #[.int .i64 0] 32) = x := ⟨_, rfl⟩
  have hb1 : Below w.heap.size w w1 := by rw [← hw1]; exact ((below_two _ _ _).alloc (by simp; omega) _).alloc (by simp; omega) _
  have hsz1 : w1.heap.size = w.heap.size + 4 := by rw [← hw1]; simp
  have hk1 : w1.cell? ⟨w.heap.size + 1, 0, none⟩ = some (.int .i64 k) := by rw [← hw1]; simp [go_sem]
  have x0 : w1.cell? ⟨w.heap.size + 2, 0, none⟩ = some (.int .i64 0) := by rw [← hw1]; simp [go_sem]
  have x1 : w1.cell? ⟨w.heap.size + 2, 1, none⟩ = some (.int .i64 0) := by rw [← hw1]; simp [go_sem]
  have x2 : w1.cell? ⟨w.heap.size + 3, 0, none⟩ = some (.int .i64 0) := by rw [← hw1]; simp [go_sem]
  have y0 : w1.frozen? ⟨w.heap.size + 2, 0, none⟩ = false := by rw [← hw1]; simp [go_sem]
  have y1 : w1.frozen? ⟨w.heap.size + 2, 1, none⟩ = false := by rw [← hw1]; simp [go_sem]
  have y2 : w1.frozen? ⟨w.heap.size + 3, 0, none⟩ = false := by rw [← hw1]; simp [go_sem]
  have hc1 : ∀ j v, #[Value.int .i64 a0, .int .i64 b0, .int .i64 a1, .int .i64 b1, .int .i64 a2, .int .i64 b2, rv, sv, lv][j]? = some v → w1.cell? ⟨w.heap.size, j, none⟩ = some v := by
    intro j v h; rw [← hw1]
    rw [World.cell?_alloc_lt _ _ _ (by simp; omega), World.cell?_alloc_lt _ _ _ (by simp; omega), World.cell?_alloc_lt _ _ _ (by simp), World.cell?_alloc_new]; exact h
  have hr1 := hr.later hb1
  have hsh1 := hsh.later hb1
  have hl1 := hl.later hb1
  have e0 : ∀ x, Below w1.heap.size w1 x → x.cell? ⟨w.heap.size, 0, none⟩ = some (.int .i64 a0) := fun x h => cell_old h (hc1 0 _ rfl)
  have e1 : ∀ x, Below w1.heap.size w1 x → x.cell? ⟨w.heap.size, 1, none⟩ = some (.int .i64 b0) := fun x h => cell_old h (hc1 1 _ rfl)
  have e2 : ∀ x, Below w1.heap.size w1 x → x.cell? ⟨w.heap.size, 2, none⟩ = some (.int .i64 a1) := fun x h => cell_old h (hc1 2 _ rfl)
  have e3 : ∀ x, Below w1.heap.size w1 x → x.cell? ⟨w.heap.size, 3, none⟩ = some (.int .i64 b1) := fun x h => cell_old h (hc1 3 _ rfl)
  have e4 : ∀ x, Below w1.heap.size w1 x → x.cell? ⟨w.heap.size, 4, none⟩ = some (.int .i64 a2) := fun x h => cell_old h (hc1 4 _ rfl)
  have e5 : ∀ x, Below w1.heap.size w1 x → x.cell? ⟨w.heap.size, 5, none⟩ = some (.int .i64 b2) := fun x h => cell_old h (hc1 5 _ rfl)
  have e6 : ∀ x, Below w1.heap.size w1 x → x.cell? ⟨w.heap.size, 6, none⟩ = some rv := fun x h => cell_old h (hc1 6 _ rfl)
  have e7 : ∀ x, Below w1.heap.size w1 x → x.cell? ⟨w.heap.size, 7, none⟩ = some sv := fun x h => cell_old h (hc1 7 _ rfl)
  have e8 : ∀ x, Below w1.heap.size w1 x → x.cell? ⟨w.heap.size, 8, none⟩ = some lv := fun x h => cell_old h (hc1 8 _ rfl)
  have ek : ∀ x, Below w1.heap.size w1 x → x.cell? ⟨w.heap.size + 1, 0, none⟩ = some (.int .i64 k) := fun x h => cell_old h hk1
  have hsheep : s.sheep = sheep := by rw [hs]
  have hmins3 : s.mins.length = 3 := by rw [hs]; rfl
  obtain ⟨okI, hok⟩ : ∃ x, inB k 0 2 = x := ⟨_, rfl⟩
  have hopen : ∀ x, Below w1.heap.size w1 x → Calls Try.prog 41 #[.agg #[.int .i64 a0, .int .i64 b0, .int .i64 a1, .int .i64 b1, .int .i64 a2, .int .i64 b2, rv, sv, lv], .func (.func 52) #[] #[.pointer (some ⟨w.heap.size + 1, 0, none⟩)]] x (OpenPost s okI x) := by
    intro x hx
    rw [hs]
    refine open_any a0 b0 a1 b1 a2 b2 rv sv lv runs sheep looks 52 #[.pointer (some ⟨w.heap.size + 1, 0, none⟩)] okI x (hr1.later hx) (hsh1.later hx) (hl1.later hx) (enters_of Try.func52 (by kernel_rfl) rfl) ?_
    intro A b m hA hBd hv
    have := takes1_any b (w.heap.size + 1) k A (cell_old hA (cell_old hx hk1))
    rw [hok] at this
    exact this
  rw [hok]
  have HO := Lib.hid hopen
  have HS := Lib.hid hs
  have HOK := Lib.hid hok
  have HB1 := Lib.hid hb1
  have HM3 := Lib.hid hmins3
  have HSH := Lib.hid hsheep
  have HSZ := Lib.hid hsz1
  clear hopen hs hok hb1 hr hsh hl hr1 hsh1 hl1 hc1 hmins3 hsheep hsz1
  go_enter_defers Try.func17, Try.ntmps17
  go_upto_region 2 with (fail)
  clear hw1
  simp only [Nat.add_assoc, Nat.reduceAdd]
  have c0 := e0 w1 (Below.refl _ _)
  have c1 := e1 w1 (Below.refl _ _)
  have c2 := e2 w1 (Below.refl _ _)
  have c3 := e3 w1 (Below.refl _ _)
  have c4 := e4 w1 (Below.refl _ _)
  have c5 := e5 w1 (Below.refl _ _)
  have c6 := e6 w1 (Below.refl _ _)
  have c7 := e7 w1 (Below.refl _ _)
  have c8 := e8 w1 (Below.refl _ _)
  clear e0 e1 e2 e3 e4 e5 e6 e7 e8 ek
  obtain ⟨L, hLL⟩ : ∃ L, takesL s k = L := ⟨_, rfl⟩
  rw [hLL]
  have HLL := Lib.hid hLL
  clear hLL
  go_wp2_with (go_at_call 41; refine (HO.out w1 (Below.refl _ _)).mono ?_; rintro e x (⟨h1, rfl, hb⟩ | ⟨h1, h2, rfl, hb⟩ | ⟨h1, h2, b, m, rfl, hb, hbb, hmm, hne, hbd⟩)
               rotate_left 2
               have hfit := fit_of_valid HM3.out h1
               subst h2
               have hkr : 0 ≤ k ∧ k ≤ 2 := by
                 have h0 := HOK.out
                 unfold inB at h0
                 simpa using h0
               have hto := told_any b m s (fun _ => False) 55 #[.pointer (some ⟨w.heap.size + 1, 0, none⟩)] (fun t => tk t k) x (fun A => A.cell? ⟨w.heap.size + 1, 0, none⟩ = some (.int .i64 k)) hfit (enters_of Try.func55 (by kernel_rfl) rfl) hbd (cell_old hb hk1)
                 (fun A B h hf => hf.cell h (by have := HSZ.out; have := hb.size; rintro (h | h) <;> simp only at h <;> omega))
                 (fun t _ A Y hA h => (takes2_any t (w.heap.size + 1) k A h hkr).mono fun e B ⟨h1, h2⟩ => ⟨h1, .of_below hA h2⟩)
               have hL2 : (truthsL s (everyB s)).map (fun t => tk t k) = L := HLL.out
               rw [hL2] at hto
               have HTO := Lib.hid hto
               have HBX := Lib.hid hb
               have HBD := Lib.hid hbd
               clear hto hL2 hb hbd)
  · have z0 := cell_old HBX.out x0
    have z1 := cell_old HBX.out x1
    have z2 := cell_old HBX.out x2
    have u0 := ((bcell HBX.out).2 (w.heap.size + 2) 0 (by have := HSZ.out; omega)).trans y0
    have u1 := ((bcell HBX.out).2 (w.heap.size + 2) 1 (by have := HSZ.out; omega)).trans y1
    have u2 := ((bcell HBX.out).2 (w.heap.size + 3) 0 (by have := HSZ.out; omega)).trans y2
    have n2 : w.heap.size + 2 ≠ m := by have := HSZ.out; omega
    have n3 : w.heap.size + 3 ≠ m := by have := HSZ.out; omega
    have hlt2 : w.heap.size + 2 < x.heap.size := by have := HSZ.out; have := HBX.out.size; omega
    have hlt3 : w.heap.size + 3 < x.heap.size := by have := HSZ.out; have := HBX.out.size; omega
    have hwx := below_trans' HB1.out HBX.out
    have HMB : Hid (∀ (y : World), Frm (fun k => k = m) x y → Below w.heap.size w y) := fun _ hf => hwx.trans (hf.below (fun k hk => by have := HSZ.out; omega) hwx.size)
    clear hwx x0 x1 x2 y0 y1 y2 hk1 c0 c1 c2 c3 c4 c5 c6 c7 c8
    by_cases hl : L = []
    · subst hl
      have hto := HTO.out
      simp only [toldE, if_pos] at hto
      have HRF : Hid (Refuses s true [] 10) := .inr (.inr ⟨h1, rfl, rfl, rfl⟩)
      refine hto.mono ?_
      rintro e y ⟨rfl, hon⟩
      refine end_panic rfl rfl rfl (hon.cell z0 n2) (hon.cell z1 n2) (hon.cell z2 n3) ((hon.frm.frozen hlt3 n3).trans u2) (by omega) ?_
      unfold Answered
      rw [HRF.out.ans]
      exact ⟨rfl, (HMB.out _ hon.frm).setCell (by simp only; omega) _⟩
    · obtain ⟨jl, hjl⟩ : ∃ x, joinedL (L.map fun n => (n, n)) = x := ⟨_, rfl⟩
      have hto := HTO.out
      simp only [toldE, if_neg hl, hjl] at hto
      have HAN : Hid (ansE s true L = (jl, 0)) := Lib.hid (by rw [← hjl]; exact ans_told h1 rfl hl)
      clear hjl
      refine hto.mono ?_
      rintro e y ⟨rfl, hon⟩
      have z0 := hon.cell z0 n2
      have z1 := hon.cell z1 n2
      have z2 := hon.cell z2 n3
      have u0 := (hon.frm.frozen hlt2 n2).trans u0
      have u1 := (hon.frm.frozen hlt2 n2).trans u1
      have u2 := (hon.frm.frozen hlt3 n3).trans u2
      have HON := Lib.hid hon
      clear hon hto
      go_wp2
      refine end_ok (lo := jl.1) (hi := jl.2) (c := 0) rfl rfl rfl (by simp [go_sem, z0, z1, z2]) (by simp [go_sem, z0, z1, z2]) (by simp [go_sem, z0, z1, z2]) ?_
      unfold Answered
      rw [HLL.out, HAN.out]
      exact ⟨rfl, (((HMB.out _ HON.out.frm).setCell (by simp only; omega) _).setCell (by simp only; omega) _).setCell (by simp only; omega) _⟩
  · refine end_panic rfl rfl rfl (cell_old hb x0) (cell_old hb x1) (cell_old hb x2) (((bcell hb).2 _ 0 (by have := HSZ.out; omega)).trans y2) (by omega) ?_
    unfold Answered
    rw [Refuses.ans (.inl ⟨h1, rfl⟩)]
    exact ⟨rfl, (below_trans' HB1.out hb).setCell (by simp only; omega) _⟩
  · refine end_panic rfl rfl rfl (cell_old hb x0) (cell_old hb x1) (cell_old hb x2) (((bcell hb).2 _ 0 (by have := HSZ.out; omega)).trans y2) (by omega) ?_
    unfold Answered
    rw [Refuses.ans (.inr (.inl ⟨h1, rfl, rfl⟩))]
    exact ⟨rfl, (below_trans' HB1.out hb).setCell (by simp only; omega) _⟩
end Go.Proofs.Ytojbkpnkcpcioaa
/- The walk of Late. -/
namespace Go.Proofs.Ytojbkpnkcpcioaa
open Go.RowKit Go.Sh Go.Sh.Stand Go.Shelf

def lateL (s : Stand) (k : Int) : List Int := (truthsL s (everyB s)).map fun t => if lateOf s (day s t) k.toNat then 1 else 0
def lateN (x : Int × Int) : Int := if x = (1, 1) then 2 else if x = (0, 0) then 0 else 1
def ansN (s : Stand) (okI : Bool) (L : List Int) : Int × Int := if (ansE s okI L).2 = 0 then (lateN (ansE s okI L).1, 0) else (0, (ansE s okI L).2)
def AnsweredN (s : Stand) (okI : Bool) (L : List Int) (w : World) (e : Ending) (w' : World) : Prop :=
  e = .returned (.tuple #[.int .i64 (ansN s okI L).1, .int .i64 (ansN s okI L).2]) ∧ Below w.heap.size w w'
theorem Refuses.ansN {s : Stand} {okI : Bool} {L : List Int} {c : Int} (h : Refuses s okI L c) : ansN s okI L = (0, c) := by
  have h0 := h.ans
  have hc : c ≠ 0 := by rcases h with ⟨_, rfl⟩ | ⟨_, _, rfl⟩ | ⟨_, _, _, rfl⟩ <;> decide
  unfold Ytojbkpnkcpcioaa.ansN
  rw [h0]; exact if_neg hc

theorem end_panicN {fn : Func} (hres : fn.results = #[.tmp 4, .cell 5 32]) {tmps : Array Value} {N3 : Nat} {n : Int} (h4 : tmps[4]? = some (.int .i64 n)) (h5 : tmps[5]? = some (.pointer (some ⟨N3, 0, none⟩)))
    {c : Int} {x : World} (e0 : x.cell? ⟨N3, 0, none⟩ = some (.int .i64 0)) (f0 : x.frozen? ⟨N3, 0, none⟩ = false)
    {R : Ending → World → Prop} (hR : R (.returned (.tuple #[.int .i64 n, .int .i64 c])) (x.setCell ⟨N3, 0, none⟩ (.int .i64 c))) :
    Leaves Try.prog fn tmps R [{ target := .fn (.func 40) #[], args := #[.pointer (some ⟨N3, 0, none⟩)] }] (.panicking (refusal c)) x := by
  refine leaves_cons (f := 40) (args := #[.pointer (some ⟨N3, 0, none⟩)]) (by simp) (by simp [go_sem]) ?_
  refine (answer_refused ⟨N3, 0, none⟩ 0 c [] x e0 f0).mono ?_
  rintro e u' w' ⟨rfl, rfl, rfl⟩
  have k2 : (x.setCell ⟨N3, 0, none⟩ (.int .i64 c)).cell? ⟨N3, 0, none⟩ = some (.int .i64 c) := World.cell?_setCell_same' _ _ _ (by rw [e0]; rfl)
  refine ⟨_, ?_, hR⟩
  simp [results, hres, h4, h5, go_sem, k2]
theorem end_okN {fn : Func} (hres : fn.results = #[.tmp 4, .cell 5 32]) {tmps : Array Value} {N3 : Nat} {n : Int} (h4 : tmps[4]? = some (.int .i64 n)) (h5 : tmps[5]? = some (.pointer (some ⟨N3, 0, none⟩)))
    {x : World} {c : Int} (e0 : x.cell? ⟨N3, 0, none⟩ = some (.int .i64 c))
    {R : Ending → World → Prop} (hR : R (.returned (.tuple #[.int .i64 n, .int .i64 c])) x) :
    Leaves Try.prog fn tmps R [{ target := .fn (.func 40) #[], args := #[.pointer (some ⟨N3, 0, none⟩)] }] .returning x := by
  refine leaves_cons (f := 40) (args := #[.pointer (some ⟨N3, 0, none⟩)]) (by simp) (by simp [go_sem]) ?_
  refine (answer_idle ⟨N3, 0, none⟩ x).mono ?_
  rintro e u' w' ⟨rfl, rfl, rfl⟩
  refine ⟨_, ?_, hR⟩
  simp [results, hres, h4, h5, go_sem, e0]
theorem slot_int {a : Act} {t : Nat} {k : IntKind} {n : Int} (h : slot a t = .int k n) : a.tmps[t]? = some (.int k n) := by
  unfold slot at h
  cases ht : a.tmps[t]? with
  | none => rw [ht] at h; cases h
  | some v => rw [ht] at h; simpa using h

set_option maxHeartbeats 400000 in
theorem late1_any (b Bk : Nat) (ao : Option Addr) (n cap : Nat) (k : Int) (w : World) (hb : w.cell? ⟨b, 6, none⟩ = some (.slice ao n cap)) (hk : w.cell? ⟨Bk, 0, none⟩ = some (.int .i64 k)) (hn : n < 1000) :
    Calls Try.prog 62 #[.pointer (some ⟨b, 0, none⟩), .pointer (some ⟨Bk, 0, none⟩)] w fun e w' => e = .returned (.bool (inB k 0 (n - 1) && decide (0 < k))) ∧ Below w.heap.size w w' := by
  have HS := Lib.hid (isRun_any b ao n cap k w hb hn)
  cases h1 : inB k 0 (n - 1)
  · rw [h1] at HS
    go_enter Try.func62, Try.ntmps62
    go_wp2_with (go_at_call 58; refine HS.out.mono ?_; rintro e w' ⟨rfl, rfl⟩)
    go_ret
    exact ⟨rfl, Below.refl _ _⟩
  · rw [h1] at HS
    go_enter Try.func62, Try.ntmps62
    go_wp2_with (go_at_call 58; refine HS.out.mono ?_; rintro e w' ⟨rfl, rfl⟩)
    go_ret
    exact ⟨retB (by simp), Below.refl _ _⟩

theorem Board.putAny {x y : World} {b m b' m' : Nat} {s : Stand} (h : Board x b' m' s (fun _ => False)) (hf : Frm (fun k => k = m) x y) (hx : Board x b m s (fun _ => False)) (hk : MapInv Try.prog 140 y m' fun k v => ∃ t, k = keyV t ∧ Prs y y.heap.size v (day s t) ∧ Off (fun _ => False) v) : Board y b' m' s (fun _ => False) := by
  obtain ⟨rv, r1, r2, r3⟩ := h.runs
  obtain ⟨sv, s1, s2, s3⟩ := h.sheep
  obtain ⟨lv, l1, l2, l3⟩ := h.looks
  obtain ⟨es, ck, hb, _⟩ := hx.kept
  have hc : ∀ {a : Addr} {u : Value}, x.cell? a = some u → y.cell? a = some u := fun hc => hf.cell hc (ne_of_cell_map hc hb)
  exact ⟨fun k hk => ⟨hc (h.mins k hk).1, hc (h.mins k hk).2⟩, ⟨rv, hc r1, r2.frmM hb hf, r3⟩, ⟨sv, hc s1, s2.frmM hb hf, s3⟩, ⟨lv, hc l1, l2.frmM hb hf, l3⟩, hc h.map, hk, fun k hk => hk.elim, h.xb, h.xm⟩

/-- What the operations of Late's region do to the world: no cell turns, and no board. -/
def LateR (s : Stand) (n : Nat) (x y : World) : Prop := Below n x y ∧ (∀ a v, x.cell? a = some v → y.cell? a = some v ∧ y.frozen? a = x.frozen? a) ∧ ∀ b m, Board x b m s (fun _ => False) → Board y b m s (fun _ => False)
theorem LateR.of_below {s : Stand} {n : Nat} {x y : World} (h1 : n ≤ x.heap.size) (h2 : Below x.heap.size x y) : LateR s n x y :=
  ⟨h2.mono h1, fun a v h => ⟨cell_old h2 h, h2.frozen (p := a) (World.block_lt_of_cell? _ _ h)⟩, fun b m h => h.later h2⟩
theorem LateR.trans {s : Stand} {n : Nat} {x y z : World} (h1 : LateR s n x y) (h2 : LateR s n y z) : LateR s n x z :=
  ⟨h1.1.trans h2.1, fun a v h => ⟨(h2.2.1 a v (h1.2.1 a v h).1).1, ((h2.2.1 a v (h1.2.1 a v h).1).2).trans (h1.2.1 a v h).2⟩, fun b m h => h2.2.2 b m (h1.2.2 b m h)⟩

/-- Another board of the same stand abides too. -/
theorem OnBoard.any {b m b' m' : Nat} {s : Stand} {x y : World} (h : OnBoard b m s (fun _ => False) x y) (hx : Board x b m s (fun _ => False)) (h' : Board x b' m' s (fun _ => False)) : Board y b' m' s (fun _ => False) := by
  refine h'.putAny h.frm hx ?_
  by_cases e : m' = m
  · subst e; exact h.board.kept
  · obtain ⟨es, ck, hb, _⟩ := hx.kept
    exact h'.kept.imp (h.frm.block m' h'.mlt e) fun k v ⟨t, h1, h2, h3⟩ => ⟨t, h1, h2.frmM hb h.frm, h3⟩

set_option maxRecDepth 100000 in
set_option maxHeartbeats 1000000 in
theorem lateX_any (a0 b0 a1 b1 a2 b2 : Int) (rv sv lv : Value) (runs : List (Int × Int)) (sheep : List Int) (looks : List (Int × Int × Int)) (k : Int) (w : World)
    (hr : Prs w w.heap.size rv runs) (hsh : Ints w w.heap.size sv sheep) (hl : Trs w w.heap.size lv looks) (s : Stand) (hs : s = ⟨[(a0, b0), (a1, b1), (a2, b2)], runs, sheep, looks⟩) :
    Calls Try.prog 23 #[.agg #[.int .i64 a0, .int .i64 b0, .int .i64 a1, .int .i64 b1, .int .i64 a2, .int .i64 b2, rv, sv, lv], .int .i64 k] w (AnsweredN s ((inB k 0 (runs.length - 1) && decide (0 < k))) (lateL s k) w) := by
  obtain ⟨w1, hw1⟩ : ∃ x, ((w.alloc (.cells #[.int .i64 a0, .int .i64 b0, .int .i64 a1, .int .i64 b1, .int .i64 a2, .int .i64 b2, rv, sv, lv] 29)).alloc (.cells #[.int .i64 k] 3)).alloc (.cells #[.int .i64 0] 32) = x := ⟨_, rfl⟩
  have hb1 : Below w.heap.size w w1 := by rw [← hw1]; exact (below_two _ _ _).alloc (by simp; omega) _
  have hsz1 : w1.heap.size = w.heap.size + 3 := by rw [← hw1]; simp
  have hk1 : w1.cell? ⟨w.heap.size + 1, 0, none⟩ = some (.int .i64 k) := by rw [← hw1]; simp [go_sem]
  have x2 : w1.cell? ⟨w.heap.size + 2, 0, none⟩ = some (.int .i64 0) := by rw [← hw1]; simp [go_sem]
  have y2 : w1.frozen? ⟨w.heap.size + 2, 0, none⟩ = false := by rw [← hw1]; simp [go_sem]
  have hc1 : ∀ j v, #[Value.int .i64 a0, .int .i64 b0, .int .i64 a1, .int .i64 b1, .int .i64 a2, .int .i64 b2, rv, sv, lv][j]? = some v → w1.cell? ⟨w.heap.size, j, none⟩ = some v := by
    intro j v h; rw [← hw1]
    rw [World.cell?_alloc_lt _ _ _ (by simp; omega), World.cell?_alloc_lt _ _ _ (by simp), World.cell?_alloc_new]; exact h
  have hr1 := hr.later hb1
  have hsh1 := hsh.later hb1
  have hl1 := hl.later hb1
  have e0 : ∀ x, Below w1.heap.size w1 x → x.cell? ⟨w.heap.size, 0, none⟩ = some (.int .i64 a0) := fun x h => cell_old h (hc1 0 _ rfl)
  have e1 : ∀ x, Below w1.heap.size w1 x → x.cell? ⟨w.heap.size, 1, none⟩ = some (.int .i64 b0) := fun x h => cell_old h (hc1 1 _ rfl)
  have e2 : ∀ x, Below w1.heap.size w1 x → x.cell? ⟨w.heap.size, 2, none⟩ = some (.int .i64 a1) := fun x h => cell_old h (hc1 2 _ rfl)
  have e3 : ∀ x, Below w1.heap.size w1 x → x.cell? ⟨w.heap.size, 3, none⟩ = some (.int .i64 b1) := fun x h => cell_old h (hc1 3 _ rfl)
  have e4 : ∀ x, Below w1.heap.size w1 x → x.cell? ⟨w.heap.size, 4, none⟩ = some (.int .i64 a2) := fun x h => cell_old h (hc1 4 _ rfl)
  have e5 : ∀ x, Below w1.heap.size w1 x → x.cell? ⟨w.heap.size, 5, none⟩ = some (.int .i64 b2) := fun x h => cell_old h (hc1 5 _ rfl)
  have e6 : ∀ x, Below w1.heap.size w1 x → x.cell? ⟨w.heap.size, 6, none⟩ = some rv := fun x h => cell_old h (hc1 6 _ rfl)
  have e7 : ∀ x, Below w1.heap.size w1 x → x.cell? ⟨w.heap.size, 7, none⟩ = some sv := fun x h => cell_old h (hc1 7 _ rfl)
  have e8 : ∀ x, Below w1.heap.size w1 x → x.cell? ⟨w.heap.size, 8, none⟩ = some lv := fun x h => cell_old h (hc1 8 _ rfl)
  have ek : ∀ x, Below w1.heap.size w1 x → x.cell? ⟨w.heap.size + 1, 0, none⟩ = some (.int .i64 k) := fun x h => cell_old h hk1
  have hsheep : s.sheep = sheep := by rw [hs]
  have hmins3 : s.mins.length = 3 := by rw [hs]; rfl
  obtain ⟨okI, hok⟩ : ∃ x, (inB k 0 (runs.length - 1) && decide (0 < k)) = x := ⟨_, rfl⟩
  have hopen : ∀ x, Below w1.heap.size w1 x → Calls Try.prog 41 #[.agg #[.int .i64 a0, .int .i64 b0, .int .i64 a1, .int .i64 b1, .int .i64 a2, .int .i64 b2, rv, sv, lv], .func (.func 62) #[] #[.pointer (some ⟨w.heap.size + 1, 0, none⟩)]] x (OpenPost s okI x) := by
    intro x hx
    rw [hs]
    refine open_any a0 b0 a1 b1 a2 b2 rv sv lv runs sheep looks 62 #[.pointer (some ⟨w.heap.size + 1, 0, none⟩)] okI x (hr1.later hx) (hsh1.later hx) (hl1.later hx) (enters_of Try.func62 (by kernel_rfl) rfl) ?_
    intro A b m hA hBd hv
    obtain ⟨v7, h7, ⟨ao, cap, rfl, hln, _⟩, _⟩ := hBd.runs
    have hfit := (fit_of_valid rfl hv).runs
    simp only at hfit h7
    have := late1_any b (w.heap.size + 1) ao runs.length cap k A h7 (cell_old hA (cell_old hx hk1)) (by omega)
    rw [hok] at this
    exact this
  rw [hok]
  have HO := Lib.hid hopen
  have HS := Lib.hid hs
  have HOK := Lib.hid hok
  have HB1 := Lib.hid hb1
  have HM3 := Lib.hid hmins3
  have HSH := Lib.hid hsheep
  have HSZ := Lib.hid hsz1
  clear hopen hs hok hb1 hr hsh hl hr1 hsh1 hl1 hc1 hmins3 hsheep hsz1
  go_enter_defers Try.func23, Try.ntmps23
  go_upto_region 2 with (fail)
  clear hw1
  simp only [Nat.add_assoc, Nat.reduceAdd]
  obtain ⟨L, hLL⟩ : ∃ L, lateL s k = L := ⟨_, rfl⟩
  rw [hLL]
  have HLL := Lib.hid hLL
  clear hLL
  obtain ⟨jl, hjl⟩ : ∃ x, hull L = x := ⟨_, rfl⟩
  have HJL := Lib.hid hjl
  clear hjl
  refine wp_region_rel (sz := 22) 9 (LateR s w1.heap.size)
    [cV ?rv0, cV ?rv1, fun v x => ∃ b m, v = .pointer (some ⟨b, 0, none⟩) ∧ w1.heap.size ≤ b ∧ w1.heap.size ≤ m ∧ validB s = true ∧ okI = true ∧ Board x b m s (fun _ => False), cV ?rv3, cV ?rv4, cV ?rv5, cV ?rv6,
      fun v _ => validB s = true ∧ okI = true ∧ L ≠ [] ∧ v = .agg #[.int .i64 jl.1, .int .i64 jl.2],
      fun v x => ∃ B, v = .pointer (some ⟨B, 0, none⟩) ∧ w1.heap.size ≤ B ∧ x.cell? ⟨B, 0, none⟩ = some (.int .i64 0) ∧ x.cell? ⟨B, 1, none⟩ = some (.int .i64 0) ∧ x.frozen? ⟨B, 0, none⟩ = false ∧ x.frozen? ⟨B, 1, none⟩ = false]
    (fun ch x => ∃ c, ch = refusal c ∧ Refuses s okI L c ∧ Below w1.heap.size w1 x) (by kernel_rfl) rfl (by kernel_rfl) (LateR.of_below (Nat.le_refl _) (Below.refl _ _).drew) (fun h1 h2 => h1.trans h2) ?rgS ?rgO ?rgP ?rgL ?rgE
  case rgO =>
    refine ⟨?_, ?_, ?_, ?_, ?_, ?_, ?_, ?_, ?_, trivial⟩
    all_goals
      intro a x hR hA
      rw [if_pos (by rfl)]
      have hR : Below w1.heap.size w1 x := hR.1
    · have s2 : a.tmps[2]?.getD undef = .pointer (some ⟨w.heap.size, 0, none⟩) := hA.base 2 (by decide)
      clear hA
      refine rg_val_wide _ ?_ (by simp) rfl (LateR.of_below hR.size (Below.refl _ _)); go_simp; rfl
    · have s2 : a.tmps[3]?.getD undef = .pointer (some ⟨w.heap.size + 1, 0, none⟩) := hA.base 3 (by decide)
      clear hA
      refine rg_val_wide _ ?_ (by simp) rfl (LateR.of_below hR.size (Below.refl _ _)); go_simp; rfl
    · have s6 : a.tmps[7]?.getD undef = _ := hA.pre 0 _ rfl (by kernel_rfl)
      have s7 : a.tmps[8]?.getD undef = _ := hA.pre 1 _ rfl (by kernel_rfl)
      clear hA
      refine rg_call_wide rfl (by go_simp; exact ⟨rfl, rfl⟩) ?_
      refine (HO.out x hR).mono ?_
      rintro e w2 (⟨h1, rfl, hb⟩ | ⟨h1, h2, rfl, hb⟩ | ⟨h1, h2, b, m, rfl, hb, hbb, hmm, hne, hbd⟩)
      · exact ⟨1, rfl, .inl ⟨h1, rfl⟩, below_trans' hR hb⟩
      · exact ⟨2, rfl, .inr (.inl ⟨h1, h2, rfl⟩), below_trans' hR hb⟩
      · exact ⟨⟨b, m, rfl, Nat.le_trans hR.size hbb, Nat.le_trans hR.size hmm, h1, h2, hbd⟩, LateR.of_below hR.size hb⟩
    · have s2 : a.tmps[3]?.getD undef = .pointer (some ⟨w.heap.size + 1, 0, none⟩) := hA.base 3 (by decide)
      clear hA
      refine rg_val_wide _ ?_ (by simp) rfl (LateR.of_below hR.size (Below.refl _ _)); go_simp; rfl
    · have s6 : a.tmps[10]?.getD undef = _ := hA.pre 3 _ rfl (by kernel_rfl)
      clear hA
      refine rg_val_wide _ ?_ (by simp) rfl (LateR.of_below hR.size (Below.refl _ _)); go_simp; rfl
    · have s6 : a.tmps[11]?.getD undef = _ := hA.pre 4 _ rfl (by kernel_rfl)
      clear hA
      refine rg_val_wide _ ?_ (by simp) rfl (LateR.of_below hR.size (Below.refl _ _)); go_simp; rfl
    · have s6 : a.tmps[12]?.getD undef = _ := hA.pre 5 _ rfl (by kernel_rfl)
      clear hA
      refine rg_val_wide _ ?_ (by simp) rfl (LateR.of_below hR.size (Below.refl _ _)); go_simp; rfl
    · obtain ⟨b, m, s8, hbb, hbm, hv, hoi, hbd⟩ : ∃ b m, a.tmps[9]?.getD undef = .pointer (some ⟨b, 0, none⟩) ∧ w1.heap.size ≤ b ∧ w1.heap.size ≤ m ∧ validB s = true ∧ okI = true ∧ Board x b m s (fun _ => False) := hA.pre 2 _ rfl (by kernel_rfl)
      have s7 : a.tmps[13]?.getD undef = _ := hA.pre 6 _ rfl (by kernel_rfl)
      clear hA
      refine rg_call_wide rfl (by go_simp; exact ⟨rfl, rfl⟩) ?_
      have hfit := fit_of_valid HM3.out hv
      have hkn : 0 < k ∧ k.toNat < s.runs.length := by
        have h0 := HOK.out
        rw [hoi] at h0
        have h1 : s.runs = runs := by rw [HS.out]
        rw [h1]
        unfold inB at h0
        simp only [Bool.and_eq_true, decide_eq_true_eq] at h0
        omega
      have hkv : Value.agg #[.int .i64 k] = .agg #[.int .i64 (k.toNat : Int)] := by rw [Int.toNat_of_nonneg (by omega)]
      have hme := measured_any b m s (fun _ => False) 96 (.agg #[.int .i64 k]) 121 (fun l => if lateOf s l k.toNat then 1 else 0) x hfit hbd (fun _ => by kernel_rfl) (fun _ => by kernel_rfl) (enters_of Try.func121 (by kernel_rfl) rfl)
        (fun A X v t ht hA hp => by obtain ⟨rv, hr1, hr2, _⟩ := hA.runs; rw [hkv]; exact late_any b k.toNat rv s v _ A hr1 hr2 hp (by rw [day_len]; have := hfit.sheep; omega) hkn.2)
      have hL2 : (truthsL s (everyB s)).map (fun t => if lateOf s (day s t) k.toNat then (1 : Int) else 0) = L := HLL.out
      rw [hL2] at hme
      refine hme.mono ?_
      rintro e y ⟨hte, hon⟩
      have hby : Below w1.heap.size x y := hon.frm.below (fun k hk => by rw [hk]; exact hbm) hR.size
      unfold toldE at hte
      by_cases hl : L = []
      · rw [if_pos hl] at hte
        subst hte
        exact ⟨10, rfl, .inr (.inr ⟨hv, hoi, hl, rfl⟩), hR.trans hby⟩
      · rw [if_neg hl] at hte
        subst hte
        have hj2 : joinedL (L.map fun n => (n, n)) = jl := HJL.out
        rw [hj2]
        refine ⟨⟨hv, hoi, hl, rfl⟩, hby, fun a v h => ?_, fun b' m' h => hon.any hbd h⟩
        obtain ⟨es, ck, hmb, _⟩ := hbd.kept
        exact ⟨hon.cell h (ne_of_cell_map h hmb), hon.frm.frozen (World.block_lt_of_cell? _ _ h) (ne_of_cell_map h hmb)⟩
    · clear hA e0 e1 e2 e3 e4 e5 e6 e7 e8 ek
      refine rg_make_wide (w' := x.alloc (.cells #[.int .i64 0, .int .i64 0] 23)) (.pointer (some ⟨x.heap.size, 0, none⟩)) (by go_simp) (by simp) ⟨x.heap.size, rfl, hR.size, by simp [go_sem], by simp [go_sem], by simp [go_sem], by simp [go_sem]⟩ (LateR.of_below hR.size (box_below _ _))
  case rgS =>
    intro V hV u x y hR hu
    simp only [List.mem_cons, List.not_mem_nil, or_false] at hV
    rcases hV with rfl | rfl | rfl | rfl | rfl | rfl | rfl | rfl | rfl
    all_goals first | exact hu | skip
    · obtain ⟨b, m, h1, h2, h3, h4, h5, h6⟩ := hu; exact ⟨b, m, h1, h2, h3, h4, h5, hR.2.2 b m h6⟩
    · obtain ⟨B, h1, h2, h3, h4, h5, h6⟩ := hu
      exact ⟨B, h1, h2, (hR.2.1 _ _ h3).1, (hR.2.1 _ _ h4).1, (hR.2.1 _ _ h3).2.trans h5, (hR.2.1 _ _ h4).2.trans h6⟩
  case rgP =>
    rintro ch a x ⟨c, rfl, hc, hb⟩ hsl hdf
    have t4 : a.tmps[4]? = some (.int .i64 0) := slot_int (hsl 4 (by decide))
    have t5 : a.tmps[5]? = some (.pointer (some ⟨w.heap.size + 2, 0, none⟩)) := slot_ptr (hsl 5 (by decide))
    show Leaves Try.prog Try.f23 a.tmps _ a.defers (.panicking (refusal c)) x
    rw [hdf]
    refine end_panicN rfl t4 t5 (cell_old hb x2) (((bcell hb).2 _ 0 (by have := HSZ.out; omega)).trans y2) ?_
    unfold AnsweredN
    rw [hc.ansN]
    exact ⟨rfl, (below_trans' HB1.out hb).setCell (by simp only; omega) _⟩
  case rgL =>
    rintro ⟨a, x, h⟩
    have h' : AnsweredN s okI L w .outgrown x := h
    cases h'.1
  case rgE =>
    intro v0 v1 v2 v3 v4 v5 v6 v7 v8 x hk
    obtain ⟨⟨B, rfl, hB1, z0, z1, u0, u1⟩, ⟨hv, hoi, hl, rfl⟩, rfl, rfl, rfl, rfl, _, rfl, rfl, hx, _⟩ := hk
    simp only [List.drop_succ_cons, List.drop_zero, Act.put, List.setIfInBounds_toArray, List.set_cons_succ, List.set_cons_zero]
    subst hoi
    have hx : Below w1.heap.size w1 x := hx
    have z2 := cell_old hx x2
    have u2 := ((bcell hx).2 (w.heap.size + 2) 0 (by have := HSZ.out; omega)).trans y2
    have hBn : B ≠ w.heap.size + 2 := by have := HSZ.out; omega
    have hBx := World.block_lt_of_cell? _ _ z0
    have hcx := World.block_lt_of_cell? _ _ z2
    simp only at hBx hcx
    have HWX : Hid (Below w.heap.size w x) := below_trans' HB1.out hx
    have hws : w.heap.size ≤ B := by have := HSZ.out; omega
    have h01 : ∀ a ∈ L, a = 0 ∨ a = 1 := by
      rw [← HLL.out]
      intro a ha
      obtain ⟨t, _, rfl⟩ := List.mem_map.1 ha
      split <;> simp
    have hcase : jl = (0, 0) ∨ jl = (0, 1) ∨ jl = (1, 1) := by
      obtain ⟨i1, i2, i3⟩ := hull_spec hl
      rw [HJL.out] at i1 i2 i3
      have a1 := h01 _ i1
      have a2 := h01 _ i2
      have a3 := i3 _ i1
      obtain ⟨p, q⟩ := jl
      rcases a1 with rfl | rfl <;> rcases a2 with rfl | rfl <;> first | (exfalso; omega) | simp
    have HAN : Hid (ansN s true L = (lateN jl, 0)) := Lib.hid (by
      have h0 : ansE s true L = (jl, 0) := by rw [← HJL.out]; exact ans_told hv rfl hl
      unfold ansN; rw [h0]; rfl)
    clear e0 e1 e2 e3 e4 e5 e6 e7 e8 ek hx x2 y2 hk1 h01
    rcases hcase with rfl | rfl | rfl
    all_goals
      go_wp2
      refine end_okN (c := 0) rfl rfl rfl (by simp [go_sem, z0, z1, z2]) ?_
      unfold AnsweredN
      rw [HLL.out, HAN.out]
      exact ⟨rfl, ((HWX.out.setCell (by simp only; omega) _).setCell (by simp only; omega) _).setCell (by simp only; omega) _⟩
end Go.Proofs.Ytojbkpnkcpcioaa
/- Whether there is a truth (Clash$2); how many bits a set has; the least of sets. -/
namespace Go.Proofs.Ytojbkpnkcpcioaa
open Go.RowKit Go.Sh Go.Sh.Stand Go.Shelf
attribute [local go_sem] Oper.semAt_some

structure CanAt (w : World) (m : Nat) (Rc : Nat) (T : Nat → Prop) (A : World) (v : Bool) : Prop where
  c : A.cell? ⟨Rc, 0, none⟩ = some (.bool v)
  f : A.frozen? ⟨Rc, 0, none⟩ = false
  t : T Rc
  old : ∀ k, k < w.heap.size → k ≠ m → A.heap[k]? = w.heap[k]?

set_option maxRecDepth 100000 in
set_option maxHeartbeats 1000000 in
theorem can_any (b m Bb set : Nat) (s : Stand) (X : Nat → Prop) (w : World) (hs : Fit s) (hset : set < 16) (hg : Board w b m s X) (hb : w.cell? ⟨Bb, 0, none⟩ = some (.pointer (some ⟨b, 0, none⟩))) :
    Calls Try.prog 65 #[.int .u64 set, .pointer (some ⟨Bb, 0, none⟩)] w fun e w' => e = .returned (.bool (decide (truthsL s set ≠ []))) ∧ OnBoard b m s X w w' := by
  have hml := hg.mlt
  have hBb := World.block_lt_of_cell? _ _ hb
  simp only at hBb
  refine (callsIn_wide (n := 0)).1 ?_
  refine callsIn_of_wp_marks Try.func65 rfl trivial ?_ rfl
  simp only [Try.ntmps65, List.size_toArray, List.length_cons, List.length_nil, Nat.reduceAdd, Nat.reduceSub, Array.replicate_succ, Array.replicate_zero, List.push_toArray, List.append_toArray, List.nil_append, List.cons_append]
  have HG := Lib.hid hg
  clear hg
  gi_wp2_with (refine ⟨trivial, rfl, ?_⟩; gi_at_call 66; refine (callsIn_wide.2 (truths_any b set _)).mono ?_; rintro e w' ⟨rfl, rfl⟩)
  obtain ⟨W2, hW2⟩ : ∃ x, ((w.alloc (.cells #[.bool false] 4)).alloc (.cells #[.pointer (some ⟨b, 0, none⟩)] 70)).alloc (.cells #[.int .u64 set] 98) = x := ⟨_, rfl⟩
  have hb2 : Below w.heap.size w W2 := by rw [← hW2]; exact (below_two _ _ _).alloc (by simp; omega) _
  have hsz : W2.heap.size = w.heap.size + 3 := by rw [← hW2]; simp
  have hg2 : Board W2 b m s (fun k => X k ∨ k = w.heap.size) := HG.out.grow hb2 (fun k hk => hk.elim .inl fun h => .inr (by omega)) (fun k hk => hk.elim (fun h => by have := HG.out.xlt k h; omega) fun h => by omega)
  have q0 : W2.cell? ⟨w.heap.size, 0, none⟩ = some (.bool false) := by rw [← hW2]; simp [go_sem]
  have q1 : W2.cell? ⟨w.heap.size + 1, 0, none⟩ = some (.pointer (some ⟨b, 0, none⟩)) := by rw [← hW2]; simp [go_sem]
  have q2 : W2.cell? ⟨w.heap.size + 2, 0, none⟩ = some (.int .u64 set) := by rw [← hW2]; simp [go_sem]
  have g0 : W2.frozen? ⟨w.heap.size, 0, none⟩ = false := by rw [← hW2]; simp [go_sem]
  rw [hW2]
  clear hW2
  rw [show w.heap.size + 1 + 1 = w.heap.size + 2 by omega]
  have hfin : ∀ (v : Bool) (D : Nat) (T' : Nat → Prop) (Z : World), W2.heap.size ≤ D → Rnd (fun k => k = m) (fun k => X k ∨ k = w.heap.size) T' W2 Z → Board Z b m s T' → CanAt w m w.heap.size T' Z v → Z.heap[D]? = some (.deferred (some [])) →
      OnBoard b m s X w (Z.putObj D (.deferred none)) ∧ (Z.putObj D (.deferred none)).cell? ⟨w.heap.size, 0, none⟩ = some (.bool v) := by
    intro v D T' Z hD hrn hg hc hK
    have hput := (board_good b m s).put (.deferred none) hg hK rfl (show ¬ D = m by omega)
    have h1 := hrn.pre hb2
    refine ⟨⟨⟨h1.frm.os, h1.frm.tape, h1.frm.output, by simpa using h1.frm.size, fun k hk hs => ?_⟩, hput.sub fun k hk => hrn.keep k (.inl hk)⟩, cell_putObj _ hc.c hK rfl⟩
    rw [World.putObj_heap_other (by omega)]
    exact hc.old k hk hs
  have HFIN := Lib.hid hfin
  clear hfin
  refine wpIn_range (gf := 84) (lb := #[.pointer (some ⟨w.heap.size + 1, 0, none⟩), .pointer (some ⟨w.heap.size + 2, 0, none⟩)]) rfl (enters_of Try.func84 (by kernel_rfl) rfl) (board_good b m s) (truths1_seq b m (w.heap.size + 1) (w.heap.size + 2) set s W2 hs hset q1 q2 (by omega) (by omega) (tok_all hs)) (Below.refl _ _) (fun _ => rfl)
    (fun k hk => by omega) (fun k => X k ∨ k = w.heap.size) (fun k hk => hk.elim (fun h => by have := HG.out.xlt k h; omega) (fun h => by omega)) (fun k hk => ⟨fun h => h.elim (fun h => by have := HG.out.xlt k h; omega) (fun h => by omega), by omega⟩) hg2
    (fun T pre A => pre = [] ∧ CanAt w m w.heap.size T A false) (fun c T pre A => c = .ret ∧ pre ≠ [] ∧ CanAt w m w.heap.size T A true) ?hI ?hIx ?h0
    (fun x a' A => a' = { tmps := #[.int .u64 set, .pointer (some ⟨Bb, 0, none⟩), undef, .pointer (some ⟨w.heap.size, 0, none⟩), .pointer (some ⟨b, 0, none⟩), .int .u64 set, .func (.func 84) #[] #[.pointer (some ⟨w.heap.size + 1, 0, none⟩), .pointer (some ⟨w.heap.size + 2, 0, none⟩)], keyV x], defers := [] })
    ?hAx ?assign ?body ?done ?stop
  case hI =>
    rintro T' pre A B ⟨hp, hc⟩ hga hgb hlt hff
    have hbl := World.block_lt_of_cell? _ _ hc.c
    have hnl : ¬ ((w.heap.size = m) ∨ (W2.heap.size ≤ w.heap.size ∧ ¬ T' w.heap.size)) := by rintro (h | h) <;> omega
    exact ⟨hp, hff.cell hc.c hnl, (hff.frozen hbl hnl).trans hc.f, hc.t, fun k hk hm => (hff.block k (by simp only at hbl; omega) (by rintro (h | h) <;> omega)).trans (hc.old k hk hm)⟩
  case hIx =>
    rintro c T' pre A B ⟨rfl, hp, hc⟩ hga hgb hlt hff
    have hbl := World.block_lt_of_cell? _ _ hc.c
    have hnl : ¬ ((w.heap.size = m) ∨ (W2.heap.size ≤ w.heap.size ∧ ¬ T' w.heap.size)) := by rintro (h | h) <;> omega
    exact ⟨rfl, hp, hff.cell hc.c hnl, (hff.frozen hbl hnl).trans hc.f, hc.t, fun k hk hm => (hff.block k (by simp only at hbl; omega) (by rintro (h | h) <;> omega)).trans (hc.old k hk hm)⟩
  case h0 => exact ⟨rfl, q0, g0, .inr rfl, fun k hk _ => hb2.block k hk⟩
  case hAx => rintro x a' A l' o o' rfl hl ho; rfl
  case assign =>
    rintro l' T' pre x W' K hI hg hlt hsz' hK
    have HK := Lib.hid hK
    clear hK
    gi_wp2
    exact HK.out _ _ (Below.refl _ _) (by simp [Array.zip, Array.zipWith, Array.zipWithMAux])
  case body =>
    rintro l' T' pre x a' W' ⟨hp, hc⟩ hg hlt hsz' hff rfl hpre
    have hcc := hc.c
    have hcf := hc.f
    have hbl := World.block_lt_of_cell? _ _ hcc
    simp only at hbl
    have HC := Lib.hid hc
    have HG' := Lib.hid hg
    have HL := Lib.hid hlt
    have HP := Lib.hid hpre
    clear hc hg hlt hff hpre
    gi_wp2
    have hz : Frm (fun k => k = w.heap.size) W' (W'.setCell ⟨w.heap.size, 0, none⟩ (.bool true)) := Frm.setCell (S := fun k => k = w.heap.size) (Frm.refl _ _) (.inl rfl) _
    refine ⟨T', ⟨hz.mono fun k _ hk => .inr (by rw [hk]; exact HC.out.t), fun _ h => .inl h, fun _ h => h, fun k hk => by simpa using HL.out k hk⟩, HG'.out.turn hz (fun k hk => by rw [hk]; exact HC.out.t), rfl, by simp, by simp [go_sem, hcc], by rw [World.frozen?_setCell]; exact hcf, HC.out.t, fun k hk hm => ?_⟩
    rw [Below.heap_setCell _ _ _ _ (by simp only; omega)]
    exact HC.out.old k hk hm
  case done =>
    rintro D T' W' hD hTD hrn hg ⟨hxs, hc⟩ hK
    have hcc := hc.c
    have hcf := hc.f
    have hbl := World.block_lt_of_cell? _ _ hcc
    simp only at hbl
    have hz : Frm (fun k => k = w.heap.size) W' (W'.setCell ⟨w.heap.size, 0, none⟩ (.bool false)) := Frm.setCell (S := fun k => k = w.heap.size) (Frm.refl _ _) (.inl rfl) _
    have hrn2 : Rnd (fun k => k = m) (fun k => X k ∨ k = w.heap.size) T' W2 (W'.setCell ⟨w.heap.size, 0, none⟩ (.bool false)) :=
      hrn.trans ⟨hz.mono fun k _ hk => .inr (by rw [hk]; exact hc.t), fun _ h => .inl h, fun _ h => h, fun k hk => by simpa using hrn.lt k hk⟩
    have hK2 : (W'.setCell ⟨w.heap.size, 0, none⟩ (.bool false)).heap[D]? = some (.deferred (some [])) := by rw [Below.heap_setCell _ _ _ _ (by simp only; omega)]; exact hK
    have hf := HFIN.out false D T' _ hD hrn2 (hg.turn hz (fun k hk => by rw [hk]; exact hc.t)) ⟨by simp [go_sem, hcc], by rw [World.frozen?_setCell]; exact hcf, hc.t, fun k hk hm => by rw [Below.heap_setCell _ _ _ _ (by simp only; omega)]; exact hc.old k hk hm⟩ hK2
    have HF := Lib.hid hf
    have HK2 := Lib.hid hK2
    have HXS : Hid (truthsL s set = []) := hxs
    clear hf hK2 hrn2 hz hrn hg hc hxs
    gi_wp2
    refine ⟨by simp, .inl ⟨_, _, rfl, run_takeDeferred HK2.out, ?_⟩⟩
    have y0 := HF.out.2
    refine ⟨.bool false, ?_, ?_⟩
    · simp [results, Try.results65, go_sem, y0]
    · exact ⟨retB (by simp [HXS.out]), HF.out.1⟩
  case stop =>
    rintro D c T' pre W' hD hTD hrn hg hpre ⟨rfl, hne, hc⟩ hK
    have hf := HFIN.out true D T' _ hD hrn hg hc hK
    have HF := Lib.hid hf
    have HXS : Hid (truthsL s set ≠ []) := fun h => hne (List.prefix_nil.1 (by rw [← h]; exact hpre))
    clear hf hrn hg hc hpre hne
    gi_wp2
    refine ⟨by simp, .inl ⟨_, _, rfl, run_takeDeferred hK, ?_⟩⟩
    have y0 := HF.out.2
    refine ⟨.bool true, ?_, ?_⟩
    · simp [results, Try.results65, go_sem, y0]
    · exact ⟨retB (by simp [HXS.out]), HF.out.1⟩
end Go.Proofs.Ytojbkpnkcpcioaa
/- How many bits a set has; the least of sets. -/
namespace Go.Proofs.Ytojbkpnkcpcioaa
open Go.RowKit Go.Sh Go.Sh.Stand Go.Shelf

def pop (n : Nat) : Nat := (n.testBit 0).toNat + (n.testBit 1).toNat + (n.testBit 2).toNat + (n.testBit 3).toNat

set_option maxHeartbeats 1000000 in
theorem ones64_any (n : Nat) (w : World) (hn : n < 16) : Calls Try.prog 88 #[.int .u64 n] w fun e w' => e = .returned (.int .i64 (pop n)) ∧ w = w' := by
  go_enter Try.func88, Try.ntmps88
  go_wp2
  go_ret
  refine ⟨retI ?_, rfl⟩
  revert n
  decide +kernel

theorem pop_le (n : Nat) : pop n ≤ 4 := by
  unfold pop
  have := fun b : Bool => (show b.toNat ≤ 1 from by cases b <;> decide)
  have h0 := this (n.testBit 0); have h1 := this (n.testBit 1); have h2 := this (n.testBit 2); have h3 := this (n.testBit 3)
  omega

set_option maxHeartbeats 1000000 in
theorem ones_any (n : Nat) (w : World) (hn : n < 16) : Calls Try.prog 71 #[.int .u64 n] w fun e w' => e = .returned (.int .i64 (pop n)) ∧ w = w' := by
  have HO := Lib.hid (ones64_any n w hn)
  go_enter Try.func71, Try.ntmps71
  go_wp2_with (go_at_call 88; refine HO.out.mono ?_; rintro e w' ⟨rfl, rfl⟩)
  go_ret
  exact ⟨rfl, rfl⟩

set_option maxHeartbeats 1000000 in
theorem cmp_any (x y : Nat) (w : World) (hx : x < 16) (hy : y < 16) : Calls Try.prog 70 #[.int .u64 x, .int .u64 y] w fun e w' => e = .returned (.int .i64 ((pop x : Int) - pop y)) ∧ w = w' := by
  have HX := Lib.hid (ones_any x w hx)
  have HY := Lib.hid (ones_any y w hy)
  have px := pop_le x
  have py := pop_le y
  go_enter Try.func70, Try.ntmps70
  go_wp2_with (first
    | (go_at_call 71; refine HX.out.mono ?_; clear HX; rintro e w' ⟨rfl, rfl⟩)
    | (go_at_call 71; refine HY.out.mono ?_; rintro e w' ⟨rfl, rfl⟩))
  go_ret
  exact ⟨rfl, rfl⟩

def encU (n : Nat) : List Value := [.int .u64 n]
def Uints := RowsAt encU 1
/-- The first of those with the fewest bits. -/
def least (m : Nat) (l : List Nat) : Nat := l.foldl (fun m x => if pop x < pop m then x else m) m
theorem least_mem : ∀ (l : List Nat) (m : Nat), least m l = m ∨ least m l ∈ l
  | [], m => .inl rfl
  | x :: l, m => by
    unfold least
    rw [List.foldl_cons]
    have := least_mem l (if pop x < pop m then x else m)
    unfold least at this
    rcases this with h | h
    · rw [h]; split
      · exact .inr (List.mem_cons_self ..)
      · exact .inl rfl
    · exact .inr (List.mem_cons_of_mem _ h)

set_option maxHeartbeats 1000000 in
theorem minFunc_any (v : Value) (l : List Nat) (w : World) (h : Uints w w.heap.size v l) (hl : l ≠ []) (h16 : ∀ x ∈ l, x < 16) :
    Calls Try.prog 69 #[v, .func (.func 70) #[] #[]] w fun e w' => e = .returned (.int .u64 (least (l.headD 0) l.tail)) ∧ w = w' := by
  obtain ⟨ao, cap, rfl, hlen, hrow⟩ := h
  obtain ⟨b, off, rfl, hbl, hx⟩ := hrow hl
  have hpos : 0 < l.length := List.length_pos_iff.2 hl
  have c0 : w.cell? ⟨b, off, none⟩ = some (.int .u64 (l[0] : Nat)) := by simpa using hx 0 l[0] (by simp [hpos]) 0 _ rfl
  have HX := Lib.hid hx
  have H16 := Lib.hid h16
  have hh : l.headD 0 = l[0] := by cases l with | nil => exact absurd rfl hl | cons a r => rfl
  have ht : l.tail = l.drop 1 := by cases l with | nil => exact absurd rfl hl | cons a r => rfl
  rw [hh, ht]
  obtain ⟨target, htg⟩ : ∃ x, least l[0] (l.drop 1) = x := ⟨_, rfl⟩
  rw [htg]
  have HT := Lib.hid htg
  clear hx h16 htg hh ht hrow
  have cl0 : ¬ ((l.length : Nat) : Int) < 1 := by omega
  go_enter Try.func69, Try.ntmps69
  go_wp2
  go_loopw [5, 6] (fun m i wr => ∃ (j mm : Nat), 1 ≤ j ∧ j ≤ l.length ∧ i = .int .i64 j ∧ m = .int .u64 mm ∧ mm < 16 ∧ wr = w ∧ Hid (least mm (l.drop j) = target)) (fun _ i _ => l.length - (intOf i).toNat)
  case atStart => exact ⟨1, l[0], by omega, by omega, rfl, rfl, H16.out _ (List.getElem_mem _), rfl, HT⟩
  case round =>
    obtain ⟨j, mm, hj1, hj, rfl, rfl, hm16, rfl, HM⟩ := hrel
    by_cases hlt : j < l.length
    · have cl : ((j : Nat) : Int) < ((l.length : Nat) : Int) := by omega
      obtain ⟨x, hxe⟩ : ∃ x, l[j] = x := ⟨_, rfl⟩
      have cj : wr.cell? ⟨b, off + j, none⟩ = some (.int .u64 (x : Nat)) := by simpa [hxe] using HX.out j l[j] (by simp [hlt]) 0 _ rfl
      have hx16 : x < 16 := by rw [← hxe]; exact H16.out _ (List.getElem_mem _)
      have HC := Lib.hid (cmp_any x mm wr hx16 hm16)
      have hst : least mm (l.drop j) = least (if pop x < pop mm then x else mm) (l.drop (j + 1)) := by
        rw [List.drop_eq_getElem_cons hlt, hxe]; rfl
      have HST := Lib.hid hst
      clear hst hxe
      by_cases hp : pop x < pop mm
      · have hp' : (pop x : Int) - pop mm < 0 := by omega
        have HN : Hid (least x (l.drop (j + 1)) = target) := Lib.hid (by rw [← HM.out, HST.out, if_pos hp])
        go_wp2_with (go_at_call 70; refine HC.out.mono ?_; rintro e w' ⟨rfl, rfl⟩)
        go_roundw
        case rel => exact ⟨j + 1, x, by omega, by omega, by go_num, rfl, hx16, trivial, HN⟩
        case measure => simp [intOf]; omega
      · have hp' : ¬ ((pop x : Int) - pop mm < 0) := by omega
        have HN : Hid (least mm (l.drop (j + 1)) = target) := Lib.hid (by rw [← HM.out, HST.out, if_neg hp])
        go_wp2_with (go_at_call 70; refine HC.out.mono ?_; rintro e w' ⟨rfl, rfl⟩)
        go_roundw
        case rel => exact ⟨j + 1, mm, by omega, by omega, by go_num, rfl, hm16, trivial, HN⟩
        case measure => simp [intOf]; omega
    · have cl : ¬ ((j : Nat) : Int) < ((l.length : Nat) : Int) := by omega
      have HN : Hid (mm = target) := Lib.hid (by rw [← HM.out, List.drop_eq_nil_of_le (by omega)]; rfl)
      go_wp2
      go_ret
      exact ⟨by rw [HN.out]; rfl, rfl⟩
end Go.Proofs.Ytojbkpnkcpcioaa
/- The walk of Clash. -/
namespace Go.Proofs.Ytojbkpnkcpcioaa
open Go.RowKit Go.Sh Go.Sh.Stand Go.Shelf

theorem info98 : (Try.prog.info? 98).map (fun i => (i.zero, i.size, i.bytes)) = some (some (.int .u64 0), 1, 8) := by kernel_rfl
def clashL (s : Stand) : List Nat := (List.range (everyB s + 1)).filter fun set => decide (truthsL s set = [])
def ansC (s : Stand) : Int × Int := if validB s = false then (0, 1) else if truthsL s (everyB s) ≠ [] then (0, 4) else ((least ((clashL s).headD 0) (clashL s).tail : Nat), 0)
def AnsweredC (s : Stand) (w : World) (e : Ending) (w' : World) : Prop := e = .returned (.tuple #[.int .i64 (ansC s).1, .int .i64 (ansC s).2]) ∧ Below w.heap.size w w'

theorem end_panicC {fn : Func} (hres : fn.results = #[.tmp 2, .cell 3 32]) {tmps : Array Value} {N3 : Nat} {n : Int} (h4 : tmps[2]? = some (.int .i64 n)) (h5 : tmps[3]? = some (.pointer (some ⟨N3, 0, none⟩)))
    {c : Int} {x : World} (e0 : x.cell? ⟨N3, 0, none⟩ = some (.int .i64 0)) (f0 : x.frozen? ⟨N3, 0, none⟩ = false)
    {R : Ending → World → Prop} (hR : R (.returned (.tuple #[.int .i64 n, .int .i64 c])) (x.setCell ⟨N3, 0, none⟩ (.int .i64 c))) :
    Leaves Try.prog fn tmps R [{ target := .fn (.func 40) #[], args := #[.pointer (some ⟨N3, 0, none⟩)] }] (.panicking (refusal c)) x := by
  refine leaves_cons (f := 40) (args := #[.pointer (some ⟨N3, 0, none⟩)]) (by simp) (by simp [go_sem]) ?_
  refine (answer_refused ⟨N3, 0, none⟩ 0 c [] x e0 f0).mono ?_
  rintro e u' w' ⟨rfl, rfl, rfl⟩
  have k2 : (x.setCell ⟨N3, 0, none⟩ (.int .i64 c)).cell? ⟨N3, 0, none⟩ = some (.int .i64 c) := World.cell?_setCell_same' _ _ _ (by rw [e0]; rfl)
  refine ⟨_, ?_, hR⟩
  simp [results, hres, h4, h5, go_sem, k2]
theorem end_okC {fn : Func} (hres : fn.results = #[.tmp 2, .cell 3 32]) {tmps : Array Value} {N3 : Nat} {n : Int} (h4 : tmps[2]? = some (.int .i64 n)) (h5 : tmps[3]? = some (.pointer (some ⟨N3, 0, none⟩)))
    {x : World} {c : Int} (e0 : x.cell? ⟨N3, 0, none⟩ = some (.int .i64 c))
    {R : Ending → World → Prop} (hR : R (.returned (.tuple #[.int .i64 n, .int .i64 c])) x) :
    Leaves Try.prog fn tmps R [{ target := .fn (.func 40) #[], args := #[.pointer (some ⟨N3, 0, none⟩)] }] .returning x := by
  refine leaves_cons (f := 40) (args := #[.pointer (some ⟨N3, 0, none⟩)]) (by simp) (by simp [go_sem]) ?_
  refine (answer_idle ⟨N3, 0, none⟩ x).mono ?_
  rintro e u' w' ⟨rfl, rfl, rfl⟩
  refine ⟨_, ?_, hR⟩
  simp [results, hres, h4, h5, go_sem, e0]

theorem every_lt {s : Stand} (hs : Fit s) : everyB s < 16 := by
  have hll := hs.looks
  unfold everyB
  have : s.looks.length = 0 ∨ s.looks.length = 1 ∨ s.looks.length = 2 ∨ s.looks.length = 3 ∨ s.looks.length = 4 := by omega
  rcases this with h | h | h | h | h <;> rw [h] <;> decide
theorem every_cast {s : Stand} (hs : Fit s) : ((2 : Int) ^ s.looks.length - 1) = ((everyB s : Nat) : Int) := by
  have hll := hs.looks
  unfold everyB
  have : s.looks.length = 0 ∨ s.looks.length = 1 ∨ s.looks.length = 2 ∨ s.looks.length = 3 ∨ s.looks.length = 4 := by omega
  rcases this with h | h | h | h | h <;> rw [h] <;> decide

theorem yes_any (p : Value) (w : World) : Calls Try.prog 64 #[p] w fun e w' => e = .returned (.bool true) ∧ Below w.heap.size w w' := by
  go_enter Try.func64, Try.ntmps64
  go_wp2
  go_ret
  exact ⟨rfl, Below.refl _ _⟩

def clK (s : Stand) (k : Nat) : List Nat := (List.range k).filter fun set => decide (truthsL s set = [])
theorem clK_succ (s : Stand) (k : Nat) : clK s (k + 1) = clK s k ++ if truthsL s k = [] then [k] else [] := by
  unfold clK
  rw [List.range_succ, List.filter_append]
  by_cases h : truthsL s k = [] <;> simp [h]
theorem clK_length (s : Stand) (k : Nat) : (clK s k).length ≤ k := by
  unfold clK
  have := List.length_filter_le (fun set => decide (truthsL s set = [])) (List.range k)
  simpa using this
structure ClAt (w : World) (b m : Nat) (s : Stand) (Bt base : Nat) (k : Nat) (T : Nat → Prop) (v : Value) (wr : World) : Prop where
  row : wr.ownsRow base 98 1 v (clK s k).length (((clK s k).map encU).flatten)
  ro : ∀ j, v.ownBlock = some j → T j
  tb : ∀ j, T j → base ≤ j
  board : Board wr b m s T
  below : Below w.heap.size w wr
  kb : wr.cell? ⟨Bt, 0, none⟩ = some (.pointer (some ⟨b, 0, none⟩))
  ke : wr.cell? ⟨w.heap.size + 1, 0, none⟩ = some (.int .i64 0)
  kf : wr.frozen? ⟨w.heap.size + 1, 0, none⟩ = false
  size : base ≤ wr.heap.size

set_option maxRecDepth 100000 in
set_option maxHeartbeats 1000000 in
theorem clash_any (a0 b0 a1 b1 a2 b2 : Int) (rv sv lv : Value) (runs : List (Int × Int)) (sheep : List Int) (looks : List (Int × Int × Int)) (w : World)
    (hr : Prs w w.heap.size rv runs) (hsh : Ints w w.heap.size sv sheep) (hl : Trs w w.heap.size lv looks) (s : Stand) (hs : s = ⟨[(a0, b0), (a1, b1), (a2, b2)], runs, sheep, looks⟩) :
    Calls Try.prog 25 #[.agg #[.int .i64 a0, .int .i64 b0, .int .i64 a1, .int .i64 b1, .int .i64 a2, .int .i64 b2, rv, sv, lv]] w (AnsweredC s w) := by
  obtain ⟨w1, hw1⟩ : ∃ x, (w.alloc (.cells #[.int .i64 a0, .int .i64 b0, .int .i64 a1, .int .i64 b1, .int .i64 a2, .int .i64 b2, rv, sv, lv] 29)).alloc (.cells #[.int .i64 0] 32) = x := ⟨_, rfl⟩
  have hb1 : Below w.heap.size w w1 := by rw [← hw1]; exact below_two _ _ _
  have hsz1 : w1.heap.size = w.heap.size + 2 := by rw [← hw1]; simp
  have x2 : w1.cell? ⟨w.heap.size + 1, 0, none⟩ = some (.int .i64 0) := by rw [← hw1]; simp [go_sem]
  have y2 : w1.frozen? ⟨w.heap.size + 1, 0, none⟩ = false := by rw [← hw1]; simp [go_sem]
  have hc1 : ∀ j v, #[Value.int .i64 a0, .int .i64 b0, .int .i64 a1, .int .i64 b1, .int .i64 a2, .int .i64 b2, rv, sv, lv][j]? = some v → w1.cell? ⟨w.heap.size, j, none⟩ = some v := by
    intro j v h; rw [← hw1]
    rw [World.cell?_alloc_lt _ _ _ (by simp), World.cell?_alloc_new]; exact h
  have c0 := hc1 0 _ rfl
  have c1 := hc1 1 _ rfl
  have c2 := hc1 2 _ rfl
  have c3 := hc1 3 _ rfl
  have c4 := hc1 4 _ rfl
  have c5 := hc1 5 _ rfl
  have c6 := hc1 6 _ rfl
  have c7 := hc1 7 _ rfl
  have c8 := hc1 8 _ rfl
  have hmins3 : s.mins.length = 3 := by rw [hs]; rfl
  have hopen : Calls Try.prog 41 #[.agg #[.int .i64 a0, .int .i64 b0, .int .i64 a1, .int .i64 b1, .int .i64 a2, .int .i64 b2, rv, sv, lv], .func (.func 64) #[] #[]] w1 (OpenPost s true w1) := by
    rw [hs]
    exact open_any a0 b0 a1 b1 a2 b2 rv sv lv runs sheep looks 64 #[] true w1 (hr.later hb1) (hsh.later hb1) (hl.later hb1) (enters_of Try.func64 (by kernel_rfl) rfl) (fun A b m hA hBd hv => yes_any _ A)
  have HO := Lib.hid hopen
  have HS := Lib.hid hs
  have HB1 := Lib.hid hb1
  have HM3 := Lib.hid hmins3
  have HSZ := Lib.hid hsz1
  clear hopen hs hb1 hr hsh hl hc1 hmins3 hsz1
  go_enter_defers Try.func25, Try.ntmps25
  go_upto_region 2 with (fail)
  clear hw1
  go_wp2_with (go_at_call 41; refine HO.out.mono ?_; rintro e x (⟨h1, rfl, hb⟩ | ⟨h1, h2, rfl, hb⟩ | ⟨h1, h2, b, m, rfl, hb, hbb, hmm, hne, hbd⟩)
               rotate_left 2
               have HBX := Lib.hid hb
               have HBD := Lib.hid hbd
               clear hb hbd)
  · have hfit := fit_of_valid HM3.out h1
    have hll := hfit.looks
    have hset : everyB s < 16 := every_lt hfit
    obtain ⟨Z1, hZ1⟩ : ∃ z, x.alloc (.cells #[.pointer (some ⟨b, 0, none⟩)] 70) = z := ⟨_, rfl⟩
    have hbz : Below x.heap.size x Z1 := by rw [← hZ1]; exact box_below _ _
    have hzs : Z1.heap.size = x.heap.size + 1 := by rw [← hZ1]; simp
    have hgz := HBD.out.later hbz
    have kb : Z1.cell? ⟨x.heap.size, 0, none⟩ = some (.pointer (some ⟨b, 0, none⟩)) := by rw [← hZ1]; simp [go_sem]
    have ke : Z1.cell? ⟨w.heap.size + 1, 0, none⟩ = some (.int .i64 0) := cell_old hbz (cell_old HBX.out x2)
    have kf : Z1.frozen? ⟨w.heap.size + 1, 0, none⟩ = false := ((bcell hbz).2 _ 0 (by have := HSZ.out; have := HBX.out.size; omega)).trans (((bcell HBX.out).2 _ 0 (by have := HSZ.out; omega)).trans y2)
    have hwz : Below w.heap.size w Z1 := below_trans' (below_trans' HB1.out HBX.out) hbz
    have hws : w.heap.size + 2 ≤ x.heap.size := by have := HSZ.out; have := HBX.out.size; omega
    have hm2 : w.heap.size + 2 ≤ m := by have := HSZ.out; omega
    have hmz := hgz.mlt
    have hmx : m < x.heap.size := HBD.out.mlt
    obtain ⟨lv', h8, ⟨lao, lcap, rfl, _⟩, _⟩ := hgz.looks
    have hev := every_any b lao s.looks.length lcap Z1 h8 hll
    rw [every_cast hfit] at hev
    have hcan := can_any b m x.heap.size (everyB s) s _ Z1 hfit hset hgz kb
    rw [hZ1]
    have HEV := Lib.hid hev
    have HWZ := Lib.hid hwz
    have HGZ := Lib.hid hgz
    have nb : x.heap.size ≠ m := by omega
    have ne1 : w.heap.size + 1 ≠ m := by omega
    clear hev hwz hgz hZ1 hbz h8 c0 c1 c2 c3 c4 c5 c6 c7 c8 x2 y2
    by_cases hcl : truthsL s (everyB s) = []
    · have hd : decide (truthsL s (everyB s) ≠ []) = false := by simp [hcl]
      rw [hd] at hcan
      have HCAN := Lib.hid hcan
      clear hd hcan
      refine HEV.out.mono ?_
      rintro e w' ⟨rfl, rfl⟩
      go_wp2_with (first
        | (go_at_call 65; refine HCAN.out.mono ?_; rintro e Z2 ⟨rfl, hon⟩
           have kf := (hon.frm.frozen (World.block_lt_of_cell? _ _ ke) ne1).trans kf
           have kb := hon.cell kb nb
           have ke := hon.cell ke ne1
           have HON := Lib.hid hon; clear hon)
        | (go_at_call 67; refine (ask_ok 4 _).mono ?_; rintro e w6 ⟨rfl, rfl⟩))
      obtain ⟨lv', h8, ⟨lao, lcap, rfl, _⟩, _⟩ := HON.out.board.looks
      have hev2 := every_any b lao s.looks.length lcap Z2 h8 hll
      rw [every_cast hfit] at hev2
      have HEV2 := Lib.hid hev2
      have hw2 : Below w.heap.size w Z2 := HWZ.out.trans (HON.out.frm.below (fun k hk => by omega) HWZ.out.size)
      have HW2 := Lib.hid hw2
      have hzz : Z1.heap.size ≤ Z2.heap.size := HON.out.size
      clear hev2 hw2 h8
      refine HEV2.out.mono ?_
      rintro e w' ⟨rfl, rfl⟩
      obtain ⟨i0, hi0, hz0, hz1, hz2⟩ := info_parts info98
      go_wp2
      go_loopw [6, 20] (fun v i wr => ∃ (k : Nat) (T : Nat → Prop), i = .int .u64 k ∧ k ≤ everyB s + 1 ∧ ClAt w b m s x.heap.size Z2.heap.size k T v wr) (fun _ i _ => everyB s + 1 - (intOf i).toNat)
      case atStart =>
        exact ⟨0, fun _ => False, rfl, by omega, World.ownsRow_nil _ _ _ _, (by intro j hj; cases hj), fun j h => h.elim, HON.out.board, HW2.out, kb, ke, kf, Nat.le_refl _⟩
      case round =>
        obtain ⟨k, T, rfl, hk, hI⟩ := hrel
        have kb := hI.kb
        have ke := hI.ke
        have kf := hI.kf
        have HI := Lib.hid hI
        clear hI
        by_cases hlt : k < everyB s + 1
        · have cl : ((k : Nat) : Int) < ((everyB s : Nat) : Int) + 1 := by omega
          have hcan2 := can_any b m x.heap.size k s T wr hfit (by omega) HI.out.board HI.out.kb
          by_cases hck : truthsL s k = []
          · have hd : decide (truthsL s k ≠ []) = false := by simp [hck]
            rw [hd] at hcan2
            have HC2 := Lib.hid hcan2
            clear hd hcan2
            obtain ⟨ao, cap, rfl⟩ := owns_slice HI.out.row
            have hckl := clK_length s k
            go_wp2_with (first
              | (go_at_call 65; refine HC2.out.mono ?_; rintro e w5 ⟨rfl, hon⟩
                 have ho5 := ownsRow_frm HI.out.row hon.frm (fun j hj => by have := HI.out.tb j (HI.out.ro j hj); omega)
                 have hb5s : Z2.heap.size ≤ w5.heap.size := Nat.le_trans HI.out.size hon.size
                 have HON5 := Lib.hid hon; clear hon)
              | (at_builtin; refine wpList_append_own_at _ rfl _ _ 105 rfl Z2.heap.size 98 i0 (.int .u64 0) 1 8 Try.underlying105 hi0 hz0 hz1 hz2 rfl (by decide) (.slice ao (clK s k).length cap) _ _ rfl (ho5.alloc _) ⟨w5.heap.size, 0, none⟩ 1 1 [.int .u64 k] rfl rfl (cell_one_new _ _ _) (by intro u hu; simp at hu; subst hu; rfl) (by unfold maxLen; omega) (by omega) (by simp; omega) ?_; intro v6 w6 hown6 hgrow6 hnil6 hat6))
            go_roundw
            case rel =>
              have hsz6 := hgrow6.size
              simp only [World.size_alloc] at hsz6
              have hcs : clK s (k + 1) = clK s k ++ [k] := by rw [clK_succ, if_pos hck]
              have hf6 : Frm (fun j => T j) w5 w6 := ((Frm.refl (fun j => T j) w5).alloc (.cells #[.int .u64 k] 98)).grown hgrow6 (fun j hj => .inl (HI.out.ro j hj))
              have hge : ∀ j, (T j ∨ v6.ownBlock = some j) → T j ∨ w5.heap.size ≤ j := by
                rintro j (h | h)
                · exact .inl h
                · rcases hat6 with e | e
                  · rw [e] at h; exact .inl (HI.out.ro j h)
                  · rw [e] at h; cases h; exact .inr (by simp)
              have nT : ∀ j, j < Z2.heap.size → ¬ T j := fun j hj h => by have := HI.out.tb j h; omega
              have hxl : x.heap.size < Z2.heap.size := by omega
              refine ⟨k + 1, fun j => T j ∨ v6.ownBlock = some j, by go_num, by omega, ⟨?_, fun j hj => .inr hj, fun j hj => (hge j hj).elim (HI.out.tb j) (fun h => by omega), HON5.out.board.turnGrow hf6 (fun j hj => hj) hge ?_, ?_, ?_, ?_, ?_, by omega⟩⟩
              · rw [hcs]; simpa [encU] using hown6
              · rintro j (h | h)
                · have := HON5.out.board.xlt j h; omega
                · exact (hown6.lt j h).2
              · have h5 := HI.out.below.trans (HON5.out.frm.below (B := w.heap.size) (fun j hj => by omega) HI.out.below.size)
                exact h5.trans (hf6.below (fun j hj => by have := HI.out.tb j hj; omega) h5.size)
              · exact hf6.cell (HON5.out.cell kb nb) (nT _ hxl)
              · exact hf6.cell (HON5.out.cell ke ne1) (nT _ (by simp only; omega))
              · exact (hf6.frozen (by have := HON5.out.size; have := World.block_lt_of_cell? _ _ ke; simp only at this ⊢; omega) (nT _ (by simp only; omega))).trans ((HON5.out.frm.frozen (World.block_lt_of_cell? _ _ ke) ne1).trans kf)
            case measure => simp [intOf]; omega
          · have hd : decide (truthsL s k ≠ []) = true := by simp [hck]
            rw [hd] at hcan2
            have HC2 := Lib.hid hcan2
            clear hd hcan2
            go_wp2_with (go_at_call 65; refine HC2.out.mono ?_; rintro e w5 ⟨rfl, hon⟩; have HON5 := Lib.hid hon; clear hon)
            go_roundw
            case rel =>
              have hcs : clK s (k + 1) = clK s k := by rw [clK_succ, if_neg hck, List.append_nil]
              refine ⟨k + 1, T, by go_num, by omega, ⟨?_, HI.out.ro, HI.out.tb, HON5.out.board, HI.out.below.trans (HON5.out.frm.below (B := w.heap.size) (fun j hj => by omega) HI.out.below.size), HON5.out.cell kb nb, HON5.out.cell ke ne1, (HON5.out.frm.frozen (World.block_lt_of_cell? _ _ ke) ne1).trans kf, Nat.le_trans HI.out.size HON5.out.size⟩⟩
              rw [hcs]
              exact ownsRow_frm HI.out.row HON5.out.frm (fun j hj => by have := HI.out.tb j (HI.out.ro j hj); omega)
            case measure => simp [intOf]; omega
        · have cl : ¬ ((k : Nat) : Int) < ((everyB s : Nat) : Int) + 1 := by omega
          have hkk : k = everyB s + 1 := by omega
          subst hkk
          have hcl0 : everyB s ∈ clashL s := by unfold clashL; simp [hcl]
          have hne0 : clashL s ≠ [] := fun h => by rw [h] at hcl0; cases hcl0
          have h16 : ∀ y ∈ clashL s, y < 16 := by
            intro y hy
            unfold clashL at hy
            have := List.mem_range.1 (List.mem_filter.1 hy).1
            omega
          have hrow : Uints wr wr.heap.size u6 (clashL s) := RowsAt.of_owns (enc := encU) (size := 1) (fun _ => rfl) (by decide) HI.out.row
          have hmin := minFunc_any u6 (clashL s) wr hrow hne0 h16
          have hl16 : least ((clashL s).headD 0) (clashL s).tail < 16 := by
            rcases least_mem (clashL s).tail ((clashL s).headD 0) with h | h
            · rw [h]
              cases hc : clashL s with
              | nil => exact absurd hc hne0
              | cons a r => exact h16 a (by rw [hc]; exact List.mem_cons_self ..)
            · exact h16 _ (List.mem_of_mem_tail h)
          have han : ansC s = (((least ((clashL s).headD 0) (clashL s).tail : Nat) : Int), 0) := by
            unfold ansC
            rw [if_neg (by simp [h1]), if_neg (by simp [hcl])]
          obtain ⟨ml, hml2⟩ : ∃ y, least ((clashL s).headD 0) (clashL s).tail = y := ⟨_, rfl⟩
          rw [hml2] at hmin hl16 han
          have HMIN := Lib.hid hmin
          have HAN := Lib.hid han
          clear hmin han hml2 hrow h16 hcl0 hne0
          go_wp2_with (go_at_call 69; refine HMIN.out.mono ?_; rintro e w6 ⟨rfl, rfl⟩)
          refine end_okC (n := (ml : Int)) (c := 0) rfl rfl rfl (by simp [go_sem, ke]) ?_
          unfold AnsweredC
          rw [HAN.out]
          exact ⟨rfl, HI.out.below.setCell (by simp only; omega) _⟩
    · have hd : decide (truthsL s (everyB s) ≠ []) = true := by simp [hcl]
      rw [hd] at hcan
      have HCAN := Lib.hid hcan
      clear hd hcan
      refine HEV.out.mono ?_
      rintro e w' ⟨rfl, rfl⟩
      go_wp2_with (first
        | (go_at_call 65; refine HCAN.out.mono ?_; rintro e Z2 ⟨rfl, hon⟩; have HON := Lib.hid hon; clear hon)
        | (go_at_call 67; refine (ask_no 4 _).mono ?_; rintro e w6 ⟨rfl, rfl⟩))
      have hon := HON.out
      refine end_panicC rfl rfl rfl (hon.cell ke ne1) ((hon.frm.frozen (World.block_lt_of_cell? _ _ ke) ne1).trans kf) ?_
      unfold AnsweredC ansC
      rw [if_neg (by simp [h1]), if_pos hcl]
      exact ⟨rfl, (HWZ.out.trans (hon.frm.below (fun k hk => by omega) HWZ.out.size)).setCell (by simp only; omega) _⟩
  · refine end_panicC rfl rfl rfl (cell_old hb x2) (((bcell hb).2 _ 0 (by have := HSZ.out; omega)).trans y2) ?_
    unfold AnsweredC ansC
    rw [if_pos h1]
    exact ⟨rfl, (below_trans' HB1.out hb).setCell (by simp only; omega) _⟩
  · cases h2
end Go.Proofs.Ytojbkpnkcpcioaa
/- The specification's small functions. -/
namespace Go.Proofs.Ytojbkpnkcpcioaa
open Go.RowKit Go.Sh Go.Sh.Stand Go.Shelf

set_option maxHeartbeats 400000 in
theorem in_any (a b c : Int) (w : World) :
    Calls Try.prog 76 #[.int .i64 a, .int .i64 b, .int .i64 c] w fun e w' => e = .returned (.bool (inB a b c)) ∧ w = w' := by
  go_enter Try.func76, Try.ntmps76
  go_wp2
  all_goals (go_ret; exact ⟨retB (by simp [inB]; omega), rfl⟩)

set_option maxHeartbeats 400000 in
theorem span_any (lo hi b c : Int) (w : World) :
    Calls Try.prog 75 #[.agg #[.int .i64 lo, .int .i64 hi], .int .i64 b, .int .i64 c] w fun e w' => e = .returned (.bool (spanB lo hi b c)) ∧ Below w.heap.size w w' := by
  go_enter Try.func75, Try.ntmps75
  go_wp2
  all_goals (go_ret; exact ⟨retB (by simp [spanB]; omega), box_below _ _⟩)

set_option maxHeartbeats 400000 in
theorem kindR_any (a : Int) (w : World) : Calls Try.prog 56 #[.int .i64 a] w fun e w' => e = .returned (.bool (inB a 0 2)) ∧ w = w' := by
  go_enter Try.func56, Try.ntmps56
  go_wp2_with (go_at_call 76; refine (in_any _ _ _ _).mono ?_; rintro e w' ⟨rfl, rfl⟩)
  go_ret
  exact ⟨rfl, rfl⟩
set_option maxHeartbeats 400000 in
theorem minuteR_any (a : Int) (w : World) : Calls Try.prog 50 #[.int .i64 a] w fun e w' => e = .returned (.bool (inB a 0 999)) ∧ w = w' := by
  go_enter Try.func50, Try.ntmps50
  go_wp2_with (go_at_call 76; refine (in_any _ _ _ _).mono ?_; rintro e w' ⟨rfl, rfl⟩)
  go_ret
  exact ⟨rfl, rfl⟩
set_option maxHeartbeats 400000 in
theorem sheepR_any (c0 c1 c2 c3 c4 c5 rv lv : Value) (ao : Option Addr) (n cap : Nat) (k : Int) (w : World) (hn : n ≤ 9223372036854775807) :
    Calls Try.prog 46 #[.agg #[c0, c1, c2, c3, c4, c5, rv, .slice ao n cap, lv], .int .i64 k] w fun e w' => e = .returned (.bool (inB k 0 (n - 1))) ∧ Below w.heap.size w w' := by
  go_enter Try.func46, Try.ntmps46
  go_wp2_with (go_at_call 76; refine (in_any _ _ _ _).mono ?_; rintro e w' ⟨rfl, rfl⟩)
  go_ret
  exact ⟨rfl, box_below _ _⟩
set_option maxHeartbeats 400000 in
theorem runR_any (c0 c1 c2 c3 c4 c5 sv lv : Value) (ao : Option Addr) (n cap : Nat) (k : Int) (w : World) (hn : n ≤ 9223372036854775807) :
    Calls Try.prog 59 #[.agg #[c0, c1, c2, c3, c4, c5, .slice ao n cap, sv, lv], .int .i64 k] w fun e w' => e = .returned (.bool (inB k 0 (n - 1))) ∧ Below w.heap.size w w' := by
  go_enter Try.func59, Try.ntmps59
  go_wp2_with (go_at_call 76; refine (in_any _ _ _ _).mono ?_; rintro e w' ⟨rfl, rfl⟩)
  go_ret
  exact ⟨rfl, box_below _ _⟩

set_option maxHeartbeats 400000 in
theorem power_any (n : Nat) (w : World) (hn : n ≤ 60) : Calls Try.prog 91 #[.int .i64 n] w fun e w' => e = .returned (.int .i64 ((2 ^ n : Nat) : Int)) ∧ w = w' := by
  go_enter Try.func91, Try.ntmps91
  go_wp2
  go_loopw [3, 4] (fun o i wr => ∃ k : Nat, k ≤ n ∧ i = .int .i64 k ∧ o = .int .i64 ((2 ^ k : Nat) : Int) ∧ w = wr) (fun _ i _ => n - (intOf i).toNat)
  case atStart => exact ⟨0, by omega, rfl, rfl, rfl⟩
  case round =>
    obtain ⟨k, hk, rfl, rfl, rfl⟩ := hrel
    have hp : (2 ^ k : Nat) ≤ 2 ^ 60 := Nat.pow_le_pow_right (by decide) (by omega)
    obtain ⟨q, hq⟩ : ∃ q, (2 ^ k : Nat) = q := ⟨_, rfl⟩
    have hs : (2 ^ (k + 1) : Nat) = 2 * q := by rw [Nat.pow_succ, hq, Nat.mul_comm]
    have HSQ := Lib.hid hs
    have HQ := Lib.hid hq
    rw [hq] at hp ⊢
    clear hs hq
    by_cases hlt : k < n
    · have cl : ((k : Nat) : Int) < ((n : Nat) : Int) := by omega
      go_wp2
      go_roundw
      case rel => exact ⟨k + 1, by omega, by go_num, by rw [HSQ.out]; go_num, trivial⟩
      case measure => simp [intOf]; omega
    · have cl : ¬ ((k : Nat) : Int) < ((n : Nat) : Int) := by omega
      go_wp2
      go_ret
      have hkn : k = n := by omega
      subst hkn
      exact ⟨retI (by rw [← HQ.out]; simp), rfl⟩
end Go.Proofs.Ytojbkpnkcpcioaa
