/- Texts of the proof, joined. -/
import Derived.Test.YthedkfiebmnghaaGreatKyc25
set_option linter.all false
set_option maxHeartbeats 16000000
set_option maxRecDepth 20000
namespace Go.Proofs.YthedkfiebmnghaaGreat
open Go Go.RowKit Go.Sh Go.Pv Go.By
noncomputable def spareY (y : YD) : Option Nat := if y.all.length = 0 then none else spareS y.D (y.T : Int) (soonY y)
section
variable {ss : List SD} {first : List Int} {trip load : Int}
theorem ok_Spare : FunOK Tryz.prog 27 [boyR ss first trip load] (ansO (boyB ss first trip load) (spareY (yOf ss first trip load))) := by
 cases hv : boyB ss first trip load
 ·have hA : ∀ n, ansO false n = .tup [.one (iP 0), .one (iP 1)] := fun n => by cases n <;> rfl
  rw [hA]
  refine fun_expA (l := []) (od := _) (nt := 18) (t := 3) (eb := 1) (rs := [.tmp 2, .cell 3 28]) ans41 Tryz.func27 rfl rfl rfl (by simp) rfl rfl rfl ansFid_eq Tryz.func41 rfl (by decide) fun Z w0 => ?_; simp only [initFr, avR, List.map_cons, List.map_nil]
  simp only [boyR, List.map_cons, List.map_nil]
  refine tw ?_; try with_reducible intro QQ hQQ
  refine ⟨rfl, ?_⟩
  (refine ts ?_; try clear hQQ QQ)
  refine tw ?_; try with_reducible intro QQ hQQ
  refine callS_ok rfl rfl 42 qN qN Tryz.func42 rfl (by decide) (CallF.mono (c_open_arg hv Tryz.func64 rfl (by decide) ?_ ?_) fun _ _ h => False.elim h); (intro i hi; first | exact (List.not_mem_nil hi).elim | (simp only [List.flatMap_cons, List.flatMap_nil, refsCC, List.append_nil, List.mem_singleton] at hi; subst hi; exact ⟨_, qN⟩))
  exact ⟨1, 0, rfl, qN, qN, qSN⟩
 ·obtain ⟨y, h, hy, rfl, rfl, rfl, rfl⟩ := boy_yOf hv
  rw [hy]
  have hsl := fun bb n hn => s_spareC (b := bb) h n hn
  have hla := lastI_lastN (fun z => decide (overL y.D (y.T : Int) z (soonY y) ≤ 0)) 0 1001
  have hfr : FunOK Tryz.prog 69 [.one (iP 0), .one (iP 1000)] (.one (.one (.sl ((fromL 0 1000).map row1)))) := ok_from 0 1000 (by omega) (by omega)
  have hmem := fun x (hx : x ∈ fromL 0 1000) => mem_fromL hx
  have hlen : (fromL 0 1000).length ≤ 100000 := by rw [fromL_len]; omega
  change lastI _ (fromL 0 1000) = (spareS y.D (y.T : Int) (soonY y)).map _ at hla
  generalize fromL 0 1000 = l at *
  have hpr : ∀ (K : Kx) (st : St) (x : Int) (bb : Nat), K.P = Tryz.prog → x ∈ l → AL.get st.hp 0 = some (.box [.p (.sl (y.ss.map SD.row)), .p (.sl (y.F.map rowN)), .p (iP (y.T : Int)), .p (iP (y.L : Int))]) → AL.get st.hp 5 = some (.box [.p (.sl (y.ss.map SD.row)), .p (.sl (y.F.map rowN)), .p (iP (y.T : Int)), .p (iP (y.L : Int)), .p (.sl (y.ndR y.S)), .raw 4]) → AL.get st.hp 4 = some (.raw bb (.map (toE y.D y.all) y.all.length)) → AL.get st.hp 6 = some (.box [.box 5 0]) →
    CallF K 72 ([.one (.p (iP x))] ++ [CC.box 6, CC.box 0].map capV) st fun st' av => st' = st ∧ av = .one (.p (.v (.bool (decide (overL y.D (y.T : Int) x (soonY y) ≤ 0))))) := by
   intro K st x bb hK hx h0 h5 h4 h6
   obtain ⟨n, rfl, _, hn⟩ := hmem x hx
   have := hsl bb n (by omega)
   exact callF_S (st := st) (hp := (2, .box [.box 0 0]) :: (3, .box [.p (.sl (y.ss.map SD.row)), .p (.sl (y.F.map rowN)), .p (iP (y.T : Int)), .p (iP (y.L : Int))]) :: YF y bb) (avs0 := [.one (.p (iP (n : Int))), .one (.box 2 0), .one (.box 3 0)]) (nx := 4) [5, 4, 6, 0] (by rw [hK]; exact this) rfl (show _ ∧ _ ∧ _ ∧ _ ∧ True from ⟨h6, h0, h5, h4, trivial⟩) (by decide) (by decide) rfl
  clear hsl hmem
  unfold boyR
  rw [castR]
  unfold spareY
  have hsz : (toE y.D y.all).size = y.all.length := by simp [toE]
  have h48 := all_len h
  by_cases h0 : y.all.length = 0
  ·rw [if_pos h0, show ansO true none = .tup [.one (iP 0), .one (iP 4)] from rfl]
   refine fun_expA (l := []) (od := _) (nt := 18) (t := 3) (eb := 1) (rs := [.tmp 2, .cell 3 28]) ans41 Tryz.func27 rfl rfl rfl (by simp) rfl rfl rfl ansFid_eq Tryz.func41 rfl (by decide) fun Z w0 => ?_; simp only [initFr, avR, List.map_cons, List.map_nil]
   refine tw ?_; try with_reducible intro QQ hQQ
   refine ⟨rfl, ?_⟩
   (refine ts ?_; try clear hQQ QQ)
   refine tw ?_; try with_reducible intro QQ hQQ
   refine callS_ok rfl rfl 42 qN qN Tryz.func42 rfl (by decide) (CallF.mono (c_open_ok hv h Tryz.func64 rfl (by decide) ?_ ?_) ?_); (intro i hi; first | exact (List.not_mem_nil hi).elim | (simp only [List.flatMap_cons, List.flatMap_nil, refsCC, List.append_nil, List.mem_singleton] at hi; subst hi; exact ⟨_, qN⟩)); (exact is_box0 fun bb o => s_always); rintro _ _ ⟨bb, rfl, rfl⟩; refine ts ?_; try clear hQQ QQ
   unfold YD.cells YD.mapO
   refine aw_seq ?_
   refine aw_opS (l1 := [_, _, _, _]) (o := _) (l2 := [_, _]) ?_
   refine hideO fun QQ hQQ => ?_
   (refine ts ?_; try clear hQQ QQ)
   refine ⟨by (simp (disch := first | decide | omega) only [go_sem, ↓reduceIte]; try rfl), callS_lenRaw (id := 4) (b := bb) (es := toE y.D y.all) (ck := y.all.length) (n := 0) rfl rfl und73 qN qN (by rw [hsz, h0]) ?_⟩
   refine hideO fun QQ hQQ => ?_
   (refine ts ?_; try clear hQQ QQ)
   (refine ⟨rfl, .inr ⟨rfl, callS_x rfl 46 ⟨qN, qN⟩ Tryz.func46 rfl (by decide) (x_ask 4) ?_⟩⟩)
   exact ⟨4, 0, rfl, qN, qN, qSN⟩
  ·rw [if_neg h0]
   have hpos : ((y.all.length : Nat) : Int) > 0 := by omega
   have hdt : decide (((y.all.length : Nat) : Int) > 0) = true := decide_eq_true hpos
   have hm := ok_ask 4
   cases hs : spareS y.D (y.T : Int) (soonY y) with
   | none =>
    rw [hs] at hla
    have hno := lastI_no hla
    rw [show ansO true none = .tup [.one (iP 0), .one (iP 4)] from rfl]
    refine fun_expA (l := []) (od := _) (nt := 18) (t := 3) (eb := 1) (rs := [.tmp 2, .cell 3 28]) ans41 Tryz.func27 rfl rfl rfl (by simp) rfl rfl rfl ansFid_eq Tryz.func41 rfl (by decide) fun Z w0 => ?_; simp only [initFr, avR, List.map_cons, List.map_nil]
    refine tw ?_; try with_reducible intro QQ hQQ
    refine ⟨rfl, ?_⟩
    (refine ts ?_; try clear hQQ QQ)
    refine tw ?_; try with_reducible intro QQ hQQ
    refine callS_ok rfl rfl 42 qN qN Tryz.func42 rfl (by decide) (CallF.mono (c_open_ok hv h Tryz.func64 rfl (by decide) ?_ ?_) ?_); (intro i hi; first | exact (List.not_mem_nil hi).elim | (simp only [List.flatMap_cons, List.flatMap_nil, refsCC, List.append_nil, List.mem_singleton] at hi; subst hi; exact ⟨_, qN⟩)); (exact is_box0 fun bb o => s_always); rintro _ _ ⟨bb, rfl, rfl⟩; refine ts ?_; try clear hQQ QQ
    unfold YD.cells YD.mapO
    refine aw_seq ?_
    refine aw_opS (l1 := [_, _, _, _]) (o := _) (l2 := [_, _]) ?_
    refine hideO fun QQ hQQ => ?_
    (refine ts ?_; try clear hQQ QQ)
    refine ⟨by (simp (disch := first | decide | omega) only [go_sem, ↓reduceIte]; try rfl), callS_lenRaw (id := 4) (b := bb) (es := toE y.D y.all) (ck := y.all.length) (n := y.all.length) rfl rfl und73 qN qN (hsz) ?_⟩
    refine hideO fun QQ hQQ => ?_
    (refine ts ?_; try clear hQQ QQ)
    ((refine cO 46 rfl rfl rfl (hm) Tryz.func46 rfl ?_); refine tu ?_; try clear hQQ QQ); refine tw ?_; try with_reducible intro QQ hQQ
    ((refine cB 69 rfl rfl rfl (hfr) Tryz.func69 rfl ?_); refine tu ?_; try clear hQQ QQ); refine tw ?_; try with_reducible intro QQ hQQ
    refine callS_ok rfl rfl 68 qN qN Tryz.func68 rfl (by decide) (CallF.mono (cx_last (p := fun z => decide (overL y.D (y.T : Int) z (soonY y) ≤ 0)) hlen (pred_clo Tryz.func72 rfl (by decide) ?_) hno ?_) fun _ _ h => False.elim h)
    ·intro K st x hK hx hh
     exact hpr K st x bb hK hx (hh 0 _ (by decide) (by rfl)) (hh 5 _ (by decide) (by rfl)) (hh 4 _ (by decide) (by rfl)) (hh 6 _ (by decide) (by rfl))
    ·rintro _ _ rfl rfl
     exact ⟨4, 0, rfl, qN, qN, qSN⟩
   | some n =>
    rw [hs] at hla
    rw [show ansO true (some n) = .tup [.one (iP (n : Int)), .one (iP 0)] from rfl]
    refine fun_expA (l := []) (od := _) (nt := 18) (t := 3) (eb := 1) (rs := [.tmp 2, .cell 3 28]) ans41 Tryz.func27 rfl rfl rfl (by simp) rfl rfl rfl ansFid_eq Tryz.func41 rfl (by decide) fun Z w0 => ?_; simp only [initFr, avR, List.map_cons, List.map_nil]
    refine tw ?_; try with_reducible intro QQ hQQ
    refine ⟨rfl, ?_⟩
    (refine ts ?_; try clear hQQ QQ)
    refine tw ?_; try with_reducible intro QQ hQQ
    refine callS_ok rfl rfl 42 qN qN Tryz.func42 rfl (by decide) (CallF.mono (c_open_ok hv h Tryz.func64 rfl (by decide) ?_ ?_) ?_); (intro i hi; first | exact (List.not_mem_nil hi).elim | (simp only [List.flatMap_cons, List.flatMap_nil, refsCC, List.append_nil, List.mem_singleton] at hi; subst hi; exact ⟨_, qN⟩)); (exact is_box0 fun bb o => s_always); rintro _ _ ⟨bb, rfl, rfl⟩; refine ts ?_; try clear hQQ QQ
    unfold YD.cells YD.mapO
    refine aw_seq ?_
    refine aw_opS (l1 := [_, _, _, _]) (o := _) (l2 := [_, _]) ?_
    refine hideO fun QQ hQQ => ?_
    (refine ts ?_; try clear hQQ QQ)
    refine ⟨by (simp (disch := first | decide | omega) only [go_sem, ↓reduceIte]; try rfl), callS_lenRaw (id := 4) (b := bb) (es := toE y.D y.all) (ck := y.all.length) (n := y.all.length) rfl rfl und73 qN qN (hsz) ?_⟩
    refine hideO fun QQ hQQ => ?_
    (refine ts ?_; try clear hQQ QQ)
    ((refine cO 46 rfl rfl rfl (hm) Tryz.func46 rfl ?_); refine tu ?_; try clear hQQ QQ); refine tw ?_; try with_reducible intro QQ hQQ
    ((refine cB 69 rfl rfl rfl (hfr) Tryz.func69 rfl ?_); refine tu ?_; try clear hQQ QQ); refine tw ?_; try with_reducible intro QQ hQQ
    refine callS_ok rfl rfl 68 qN qN Tryz.func68 rfl (by decide) (CallF.mono (c_last (p := fun z => decide (overL y.D (y.T : Int) z (soonY y) ≤ 0)) hlen (pred_clo Tryz.func72 rfl (by decide) ?_) hla) ?_)
    ·intro K st x hK hx hh
     exact hpr K st x bb hK hx (hh 0 _ (by decide) (by rfl)) (hh 5 _ (by decide) (by rfl)) (hh 4 _ (by decide) (by rfl)) (hh 6 _ (by decide) (by rfl))
    ·rintro _ _ ⟨rfl, rfl⟩
     (refine ts ?_; try clear hQQ QQ)
     refine tw ?_; try with_reducible intro QQ hQQ
     (refine aw_ret ⟨.inr rfl, qN, qSN⟩)
end
section
variable {ss : List SD} {first : List Int} {trip load : Int}
theorem ok_Trips (i : Int) : FunOK Tryz.prog 16 [boyR ss first trip load, .one (iP i)] (ansN (whyI (boyB ss first trip load) (inB i 0 ((ss.length : Int) - 1)) true 0) ((yOf ss first trip load).n i.toNat : Nat)) := by
 cases hv : boyB ss first trip load
 ·generalize ((yOf ss first trip load).n i.toNat) = n
  rw [show ansN (whyI false (inB i 0 ((ss.length : Int) - 1)) true 0) (n : Int) = .tup [.one (iP 0), .one (iP 1)] from rfl]
  refine fun_expA (l := []) (od := _) (nt := 12) (t := 5) (eb := 2) (rs := [.tmp 4, .cell 5 28]) ans41 Tryz.func16 rfl rfl rfl (by simp) rfl rfl rfl ansFid_eq Tryz.func41 rfl (by decide) fun Z w0 => ?_; simp only [initFr, avR, List.map_cons, List.map_nil]
  simp only [boyR, List.map_cons, List.map_nil]
  refine tw ?_; try with_reducible intro QQ hQQ
  refine ⟨rfl, ?_⟩
  (refine ts ?_; try clear hQQ QQ)
  refine tw ?_; try with_reducible intro QQ hQQ
  refine callD_FX rfl rfl qN qN Tryz.func42 rfl (by decide) ?_ ?_; rotate_left; ((repeat (first | refine evDead_skip (by rfl) ?_ | (refine evDead_step (by rfl) qMN qMN ?_; simp (maxSteps := 400000) (disch := first | decide | omega) only [go_sem, ↓reduceIte]))); (try (show okDraw _ _ = true)); kernel_rfl); intro fr hk; refine c_open_arg hv Tryz.func50 rfl (by decide) ?_ ?_; (intro i hi; first | exact (List.not_mem_nil hi).elim | (simp only [List.flatMap_cons, List.flatMap_nil, refsCC, List.append_nil, List.mem_singleton] at hi; subst hi; exact ⟨_, qN⟩) | (simp only [List.flatMap_cons, List.flatMap_nil, refsCC, List.append_nil, List.cons_append, List.nil_append, List.mem_cons, List.mem_nil_iff, or_false] at hi; first | (rcases hi with rfl | rfl <;> exact ⟨_, qN⟩) | (rcases hi with rfl | rfl | rfl <;> exact ⟨_, qN⟩)))
  (have k5 := hk 5 (by rfl); have k4 := hk 4 (by rfl); have k5 := hk 5 (by rfl); simp (disch := first | decide | omega) only [go_sem, ↓reduceIte] at k5 k4; exact ⟨1, 0, rfl, k5, qN, by simp (disch := first | decide | omega) only [k4, k5, resA, res1, go_sem, ↓reduceIte]; try rfl⟩)
 obtain ⟨y, h, hy, rfl, rfl, rfl, rfl⟩ := boy_yOf hv
 rw [hy]
 have hSl : y.ss.length = y.S := rfl
 rw [hSl]
 have hS := fun bb o => s_isT (b := bb) (o := o) h i
 unfold boyR
 rw [castR]
 cases b1 : inB i 0 ((y.S : Int) - 1)
 ·have hS : ∀ bb o, _ := fun bb o => by have := hS bb o; rw [b1] at this; exact this
  generalize y.n i.toNat = n
  rw [show ansN (whyI true false true 0) (n : Int) = .tup [.one (iP 0), .one (iP 2)] from rfl]
  refine fun_expA (l := []) (od := _) (nt := 12) (t := 5) (eb := 2) (rs := [.tmp 4, .cell 5 28]) ans41 Tryz.func16 rfl rfl rfl (by simp) rfl rfl rfl ansFid_eq Tryz.func41 rfl (by decide) fun Z w0 => ?_; simp only [initFr, avR, List.map_cons, List.map_nil]
  refine tw ?_; try with_reducible intro QQ hQQ
  refine ⟨rfl, ?_⟩
  (refine ts ?_; try clear hQQ QQ)
  refine tw ?_; try with_reducible intro QQ hQQ
  refine callD_FX rfl rfl qN qN Tryz.func42 rfl (by decide) ?_ ?_; rotate_left; ((repeat (first | refine evDead_skip (by rfl) ?_ | (refine evDead_step (by rfl) qMN qMN ?_; simp (maxSteps := 400000) (disch := first | decide | omega) only [go_sem, ↓reduceIte]))); (try (show okDraw _ _ = true)); kernel_rfl); intro fr hk; refine c_open_ran hv h Tryz.func50 rfl (by decide) ?_ ?_ ?_; (intro i hi; first | exact (List.not_mem_nil hi).elim | (simp only [List.flatMap_cons, List.flatMap_nil, refsCC, List.append_nil, List.mem_singleton] at hi; subst hi; exact ⟨_, qN⟩) | (simp only [List.flatMap_cons, List.flatMap_nil, refsCC, List.append_nil, List.cons_append, List.nil_append, List.mem_cons, List.mem_nil_iff, or_false] at hi; first | (rcases hi with rfl | rfl <;> exact ⟨_, qN⟩) | (rcases hi with rfl | rfl | rfl <;> exact ⟨_, qN⟩))); (exact is_box1 (c := 1) hS (by rfl) (by first | decide | (dsimp only; omega)))
  (have k5 := hk 5 (by rfl); have k4 := hk 4 (by rfl); have k5 := hk 5 (by rfl); simp (disch := first | decide | omega) only [go_sem, ↓reduceIte] at k5 k4; exact ⟨2, 0, rfl, k5, qN, by simp (disch := first | decide | omega) only [k4, k5, resA, res1, go_sem, ↓reduceIte]; try rfl⟩)
 ·have hS : ∀ bb o, _ := fun bb o => by have := hS bb o; rw [b1] at this; exact this
  have hi : 0 ≤ i ∧ i ≤ (y.S : Int) - 1 := by simpa [inB] using b1
  obtain ⟨k, rfl⟩ : ∃ k : Nat, i = k := ⟨i.toNat, by omega⟩
  have hk : k < y.S := by omega
  have h3 := h.n3
  have h1 := fun bb => s_left (b := bb) h
  have hP : (arrP 3 fun s => ((if s < y.S then y.n s else 0 : Nat) : Int))[k]? = some (iP (y.n k : Int)) := by unfold arrP; rw [List.getElem?_map, List.getElem?_range (by omega)]; simp [hk]
  have hPl : (arrP 3 fun s => ((if s < y.S then y.n s else 0 : Nat) : Int)).length = 3 := arrP_len _ _
  generalize (arrP 3 fun s => ((if s < y.S then y.n s else 0 : Nat) : Int)) = P3 at *
  rw [Int.toNat_natCast]
  rw [show ansN (whyI true true true 0) (y.n k : Int) = .tup [.one (iP (y.n k : Int)), .one (iP 0)] from rfl]
  refine fun_expA (l := []) (od := _) (nt := 12) (t := 5) (eb := 2) (rs := [.tmp 4, .cell 5 28]) ans41 Tryz.func16 rfl rfl rfl (by simp) rfl rfl rfl ansFid_eq Tryz.func41 rfl (by decide) fun Z w0 => ?_; simp only [initFr, avR, List.map_cons, List.map_nil]
  refine tw ?_; try with_reducible intro QQ hQQ
  refine ⟨rfl, ?_⟩
  (refine ts ?_; try clear hQQ QQ)
  (repeat (first | apply aw_seq | apply aw_block))
  try clear hF
  have hF := And.intro hP (hPl)
  refine aw_any mixed ?_
  refine evAny_three (i := 0) (j := 1) (k := 4) (by kernel_rfl) rfl rfl rfl ?_ ?_ ?_
  ·refine hideO fun QQ hQQ => ?_
   (refine tsF ?_; try clear hQQ QQ)
   (try refine unhide hQQ ?_)
   (try clear hQQ QQ)
   refine evAny_two (i := 1) (j := 4) (by kernel_rfl) rfl rfl ?_ ?_
   ·refine hideO fun QQ hQQ => ?_
    (refine tsF ?_; try clear hQQ QQ)
    (try refine unhide hQQ ?_)
    (try clear hQQ QQ)
    refine evAny_two (i := 2) (j := 4) (by kernel_rfl) rfl rfl ?_ ?_
    ·refine hideO fun QQ hQQ => ?_
     (refine tsF ?_; try clear hQQ QQ)
     refine callS_ok rfl rfl 42 qF qF Tryz.func42 rfl (by decide) (CallF.mono (c_open_ok hv h Tryz.func50 rfl (by decide) ?_ ?_) ?_); (intro i hi; first | exact (List.not_mem_nil hi).elim | (simp only [List.flatMap_cons, List.flatMap_nil, refsCC, List.append_nil, List.mem_singleton] at hi; subst hi; exact ⟨_, qF⟩) | (simp only [List.flatMap_cons, List.flatMap_nil, refsCC, List.append_nil, List.cons_append, List.nil_append, List.mem_cons, List.mem_nil_iff, or_false] at hi; first | (rcases hi with rfl | rfl <;> exact ⟨_, qF⟩) | (rcases hi with rfl | rfl | rfl <;> exact ⟨_, qF⟩))); (exact is_box1 (c := 1) hS (by rfl) (by first | decide | (dsimp only; omega))); rintro _ _ ⟨bb, rfl, rfl⟩; refine tsF ?_; try clear hQQ QQ
     unfold YD.cells YD.mapO
     (try refine unhide hQQ ?_)
     (try clear hQQ QQ)
     refine evAny_two (i := 3) (j := 4) (by kernel_rfl) rfl rfl ?_ ?_
     ·refine hideO fun QQ hQQ => ?_
      (refine tsF ?_; try clear hQQ QQ)
      have h1 := h1 bb
      unfold YF YH at h1
      (refine callO_S [6, 5] (h1) rfl rfl qF qF Tryz.func51 rfl (by decide) (by rfl) qAF (by decide) (by decide) qCF ?_); refine tsF ?_; try clear hQQ QQ
      (try refine unhide hQQ ?_)
      (try clear hQQ QQ)
      refine evAny_one (i := 4) (by kernel_rfl) rfl ?_
      refine hideO fun QQ hQQ => ?_
      (refine tsF ?_; try clear hQQ QQ)
      (try refine unhide hQQ ?_)
      (try clear hQQ QQ)
      refine evAny_one (i := 5) (by kernel_rfl) rfl ?_
      refine hideO fun QQ hQQ => ?_
      (refine tsF ?_; try clear hQQ QQ)
      (try refine unhide hQQ ?_)
      (try clear hQQ QQ)
      refine evAny_one (i := 6) (by kernel_rfl) rfl ?_
      refine hideO fun QQ hQQ => ?_
      (refine tsF ?_; try clear hQQ QQ)
      (try refine unhide hQQ ?_)
      (try clear hQQ QQ)
      refine evAny_one (i := 7) (by kernel_rfl) rfl ?_
      refine hideO fun QQ hQQ => ?_
      (refine tsF ?_; try clear hQQ QQ)
      (try refine unhide hQQ ?_)
      (try clear hQQ QQ)
      refine evAny_end (by kernel_rfl) ?_ _
      (repeat with_reducible first | apply then_n | apply block_n)
      refine twF ?_; try with_reducible intro QQ hQQ
      (refine aw_ret ⟨.inr rfl, qF, qSN⟩)
     ·refine hideO fun QQ hQQ => ?_
      (refine tsF ?_; try clear hQQ QQ)
      (try refine unhide hQQ ?_)
      (try clear hQQ QQ)
      refine evAny_one (i := 3) (by kernel_rfl) rfl ?_
      refine hideO fun QQ hQQ => ?_
      (refine tsF ?_; try clear hQQ QQ)
      have h1 := h1 bb
      unfold YF YH at h1
      (refine callO_S [6, 5] (h1) rfl rfl qF qF Tryz.func51 rfl (by decide) (by rfl) qAF (by decide) (by decide) qCF ?_); refine tsF ?_; try clear hQQ QQ
      (try refine unhide hQQ ?_)
      (try clear hQQ QQ)
      refine evAny_one (i := 5) (by kernel_rfl) rfl ?_
      refine hideO fun QQ hQQ => ?_
      (refine tsF ?_; try clear hQQ QQ)
      (try refine unhide hQQ ?_)
      (try clear hQQ QQ)
      refine evAny_one (i := 6) (by kernel_rfl) rfl ?_
      refine hideO fun QQ hQQ => ?_
      (refine tsF ?_; try clear hQQ QQ)
      (try refine unhide hQQ ?_)
      (try clear hQQ QQ)
      refine evAny_one (i := 7) (by kernel_rfl) rfl ?_
      refine hideO fun QQ hQQ => ?_
      (refine tsF ?_; try clear hQQ QQ)
      (try refine unhide hQQ ?_)
      (try clear hQQ QQ)
      refine evAny_end (by kernel_rfl) ?_ _
      (repeat with_reducible first | apply then_n | apply block_n)
      refine twF ?_; try with_reducible intro QQ hQQ
      (refine aw_ret ⟨.inr rfl, qF, qSN⟩)
    ·refine hideO fun QQ hQQ => ?_
     (refine tsF ?_; try clear hQQ QQ)
     (try refine unhide hQQ ?_)
     (try clear hQQ QQ)
     refine evAny_one (i := 2) (by kernel_rfl) rfl ?_
     refine hideO fun QQ hQQ => ?_
     (refine tsF ?_; try clear hQQ QQ)
     refine callS_ok rfl rfl 42 qF qF Tryz.func42 rfl (by decide) (CallF.mono (c_open_ok hv h Tryz.func50 rfl (by decide) ?_ ?_) ?_); (intro i hi; first | exact (List.not_mem_nil hi).elim | (simp only [List.flatMap_cons, List.flatMap_nil, refsCC, List.append_nil, List.mem_singleton] at hi; subst hi; exact ⟨_, qF⟩) | (simp only [List.flatMap_cons, List.flatMap_nil, refsCC, List.append_nil, List.cons_append, List.nil_append, List.mem_cons, List.mem_nil_iff, or_false] at hi; first | (rcases hi with rfl | rfl <;> exact ⟨_, qF⟩) | (rcases hi with rfl | rfl | rfl <;> exact ⟨_, qF⟩))); (exact is_box1 (c := 1) hS (by rfl) (by first | decide | (dsimp only; omega))); rintro _ _ ⟨bb, rfl, rfl⟩; refine tsF ?_; try clear hQQ QQ
     unfold YD.cells YD.mapO
     (try refine unhide hQQ ?_)
     (try clear hQQ QQ)
     refine evAny_one (i := 3) (by kernel_rfl) rfl ?_
     refine hideO fun QQ hQQ => ?_
     (refine tsF ?_; try clear hQQ QQ)
     have h1 := h1 bb
     unfold YF YH at h1
     (refine callO_S [6, 5] (h1) rfl rfl qF qF Tryz.func51 rfl (by decide) (by rfl) qAF (by decide) (by decide) qCF ?_); refine tsF ?_; try clear hQQ QQ
     (try refine unhide hQQ ?_)
     (try clear hQQ QQ)
     refine evAny_one (i := 5) (by kernel_rfl) rfl ?_
     refine hideO fun QQ hQQ => ?_
     (refine tsF ?_; try clear hQQ QQ)
     (try refine unhide hQQ ?_)
     (try clear hQQ QQ)
     refine evAny_one (i := 6) (by kernel_rfl) rfl ?_
     refine hideO fun QQ hQQ => ?_
     (refine tsF ?_; try clear hQQ QQ)
     (try refine unhide hQQ ?_)
     (try clear hQQ QQ)
     refine evAny_one (i := 7) (by kernel_rfl) rfl ?_
     refine hideO fun QQ hQQ => ?_
     (refine tsF ?_; try clear hQQ QQ)
     (try refine unhide hQQ ?_)
     (try clear hQQ QQ)
     refine evAny_end (by kernel_rfl) ?_ _
     (repeat with_reducible first | apply then_n | apply block_n)
     refine twF ?_; try with_reducible intro QQ hQQ
     (refine aw_ret ⟨.inr rfl, qF, qSN⟩)
   ·refine hideO fun QQ hQQ => ?_
    (refine tsF ?_; try clear hQQ QQ)
    (try refine unhide hQQ ?_)
    (try clear hQQ QQ)
    refine evAny_one (i := 1) (by kernel_rfl) rfl ?_
    refine hideO fun QQ hQQ => ?_
    (refine tsF ?_; try clear hQQ QQ)
    (try refine unhide hQQ ?_)
    (try clear hQQ QQ)
    refine evAny_one (i := 2) (by kernel_rfl) rfl ?_
    refine hideO fun QQ hQQ => ?_
    (refine tsF ?_; try clear hQQ QQ)
    refine callS_ok rfl rfl 42 qF qF Tryz.func42 rfl (by decide) (CallF.mono (c_open_ok hv h Tryz.func50 rfl (by decide) ?_ ?_) ?_); (intro i hi; first | exact (List.not_mem_nil hi).elim | (simp only [List.flatMap_cons, List.flatMap_nil, refsCC, List.append_nil, List.mem_singleton] at hi; subst hi; exact ⟨_, qF⟩) | (simp only [List.flatMap_cons, List.flatMap_nil, refsCC, List.append_nil, List.cons_append, List.nil_append, List.mem_cons, List.mem_nil_iff, or_false] at hi; first | (rcases hi with rfl | rfl <;> exact ⟨_, qF⟩) | (rcases hi with rfl | rfl | rfl <;> exact ⟨_, qF⟩))); (exact is_box1 (c := 1) hS (by rfl) (by first | decide | (dsimp only; omega))); rintro _ _ ⟨bb, rfl, rfl⟩; refine tsF ?_; try clear hQQ QQ
    unfold YD.cells YD.mapO
    (try refine unhide hQQ ?_)
    (try clear hQQ QQ)
    refine evAny_one (i := 3) (by kernel_rfl) rfl ?_
    refine hideO fun QQ hQQ => ?_
    (refine tsF ?_; try clear hQQ QQ)
    have h1 := h1 bb
    unfold YF YH at h1
    (refine callO_S [6, 5] (h1) rfl rfl qF qF Tryz.func51 rfl (by decide) (by rfl) qAF (by decide) (by decide) qCF ?_); refine tsF ?_; try clear hQQ QQ
    (try refine unhide hQQ ?_)
    (try clear hQQ QQ)
    refine evAny_one (i := 5) (by kernel_rfl) rfl ?_
    refine hideO fun QQ hQQ => ?_
    (refine tsF ?_; try clear hQQ QQ)
    (try refine unhide hQQ ?_)
    (try clear hQQ QQ)
    refine evAny_one (i := 6) (by kernel_rfl) rfl ?_
    refine hideO fun QQ hQQ => ?_
    (refine tsF ?_; try clear hQQ QQ)
    (try refine unhide hQQ ?_)
    (try clear hQQ QQ)
    refine evAny_one (i := 7) (by kernel_rfl) rfl ?_
    refine hideO fun QQ hQQ => ?_
    (refine tsF ?_; try clear hQQ QQ)
    (try refine unhide hQQ ?_)
    (try clear hQQ QQ)
    refine evAny_end (by kernel_rfl) ?_ _
    (repeat with_reducible first | apply then_n | apply block_n)
    refine twF ?_; try with_reducible intro QQ hQQ
    (refine aw_ret ⟨.inr rfl, qF, qSN⟩)
  ·refine hideO fun QQ hQQ => ?_
   (refine tsF ?_; try clear hQQ QQ)
   (try refine unhide hQQ ?_)
   (try clear hQQ QQ)
   refine evAny_two (i := 0) (j := 4) (by kernel_rfl) rfl rfl ?_ ?_
   ·refine hideO fun QQ hQQ => ?_
    (refine tsF ?_; try clear hQQ QQ)
    (try refine unhide hQQ ?_)
    (try clear hQQ QQ)
    refine evAny_two (i := 2) (j := 4) (by kernel_rfl) rfl rfl ?_ ?_
    ·refine hideO fun QQ hQQ => ?_
     (refine tsF ?_; try clear hQQ QQ)
     refine callS_ok rfl rfl 42 qF qF Tryz.func42 rfl (by decide) (CallF.mono (c_open_ok hv h Tryz.func50 rfl (by decide) ?_ ?_) ?_); (intro i hi; first | exact (List.not_mem_nil hi).elim | (simp only [List.flatMap_cons, List.flatMap_nil, refsCC, List.append_nil, List.mem_singleton] at hi; subst hi; exact ⟨_, qF⟩) | (simp only [List.flatMap_cons, List.flatMap_nil, refsCC, List.append_nil, List.cons_append, List.nil_append, List.mem_cons, List.mem_nil_iff, or_false] at hi; first | (rcases hi with rfl | rfl <;> exact ⟨_, qF⟩) | (rcases hi with rfl | rfl | rfl <;> exact ⟨_, qF⟩))); (exact is_box1 (c := 1) hS (by rfl) (by first | decide | (dsimp only; omega))); rintro _ _ ⟨bb, rfl, rfl⟩; refine tsF ?_; try clear hQQ QQ
     unfold YD.cells YD.mapO
     (try refine unhide hQQ ?_)
     (try clear hQQ QQ)
     refine evAny_two (i := 3) (j := 4) (by kernel_rfl) rfl rfl ?_ ?_
     ·refine hideO fun QQ hQQ => ?_
      (refine tsF ?_; try clear hQQ QQ)
      have h1 := h1 bb
      unfold YF YH at h1
      (refine callO_S [6, 5] (h1) rfl rfl qF qF Tryz.func51 rfl (by decide) (by rfl) qAF (by decide) (by decide) qCF ?_); refine tsF ?_; try clear hQQ QQ
      (try refine unhide hQQ ?_)
      (try clear hQQ QQ)
      refine evAny_one (i := 4) (by kernel_rfl) rfl ?_
      refine hideO fun QQ hQQ => ?_
      (refine tsF ?_; try clear hQQ QQ)
      (try refine unhide hQQ ?_)
      (try clear hQQ QQ)
      refine evAny_one (i := 5) (by kernel_rfl) rfl ?_
      refine hideO fun QQ hQQ => ?_
      (refine tsF ?_; try clear hQQ QQ)
      (try refine unhide hQQ ?_)
      (try clear hQQ QQ)
      refine evAny_one (i := 6) (by kernel_rfl) rfl ?_
      refine hideO fun QQ hQQ => ?_
      (refine tsF ?_; try clear hQQ QQ)
      (try refine unhide hQQ ?_)
      (try clear hQQ QQ)
      refine evAny_one (i := 7) (by kernel_rfl) rfl ?_
      refine hideO fun QQ hQQ => ?_
      (refine tsF ?_; try clear hQQ QQ)
      (try refine unhide hQQ ?_)
      (try clear hQQ QQ)
      refine evAny_end (by kernel_rfl) ?_ _
      (repeat with_reducible first | apply then_n | apply block_n)
      refine twF ?_; try with_reducible intro QQ hQQ
      (refine aw_ret ⟨.inr rfl, qF, qSN⟩)
     ·refine hideO fun QQ hQQ => ?_
      (refine tsF ?_; try clear hQQ QQ)
      (try refine unhide hQQ ?_)
      (try clear hQQ QQ)
      refine evAny_one (i := 3) (by kernel_rfl) rfl ?_
      refine hideO fun QQ hQQ => ?_
      (refine tsF ?_; try clear hQQ QQ)
      have h1 := h1 bb
      unfold YF YH at h1
      (refine callO_S [6, 5] (h1) rfl rfl qF qF Tryz.func51 rfl (by decide) (by rfl) qAF (by decide) (by decide) qCF ?_); refine tsF ?_; try clear hQQ QQ
      (try refine unhide hQQ ?_)
      (try clear hQQ QQ)
      refine evAny_one (i := 5) (by kernel_rfl) rfl ?_
      refine hideO fun QQ hQQ => ?_
      (refine tsF ?_; try clear hQQ QQ)
      (try refine unhide hQQ ?_)
      (try clear hQQ QQ)
      refine evAny_one (i := 6) (by kernel_rfl) rfl ?_
      refine hideO fun QQ hQQ => ?_
      (refine tsF ?_; try clear hQQ QQ)
      (try refine unhide hQQ ?_)
      (try clear hQQ QQ)
      refine evAny_one (i := 7) (by kernel_rfl) rfl ?_
      refine hideO fun QQ hQQ => ?_
      (refine tsF ?_; try clear hQQ QQ)
      (try refine unhide hQQ ?_)
      (try clear hQQ QQ)
      refine evAny_end (by kernel_rfl) ?_ _
      (repeat with_reducible first | apply then_n | apply block_n)
      refine twF ?_; try with_reducible intro QQ hQQ
      (refine aw_ret ⟨.inr rfl, qF, qSN⟩)
    ·refine hideO fun QQ hQQ => ?_
     (refine tsF ?_; try clear hQQ QQ)
     (try refine unhide hQQ ?_)
     (try clear hQQ QQ)
     refine evAny_one (i := 2) (by kernel_rfl) rfl ?_
     refine hideO fun QQ hQQ => ?_
     (refine tsF ?_; try clear hQQ QQ)
     refine callS_ok rfl rfl 42 qF qF Tryz.func42 rfl (by decide) (CallF.mono (c_open_ok hv h Tryz.func50 rfl (by decide) ?_ ?_) ?_); (intro i hi; first | exact (List.not_mem_nil hi).elim | (simp only [List.flatMap_cons, List.flatMap_nil, refsCC, List.append_nil, List.mem_singleton] at hi; subst hi; exact ⟨_, qF⟩) | (simp only [List.flatMap_cons, List.flatMap_nil, refsCC, List.append_nil, List.cons_append, List.nil_append, List.mem_cons, List.mem_nil_iff, or_false] at hi; first | (rcases hi with rfl | rfl <;> exact ⟨_, qF⟩) | (rcases hi with rfl | rfl | rfl <;> exact ⟨_, qF⟩))); (exact is_box1 (c := 1) hS (by rfl) (by first | decide | (dsimp only; omega))); rintro _ _ ⟨bb, rfl, rfl⟩; refine tsF ?_; try clear hQQ QQ
     unfold YD.cells YD.mapO
     (try refine unhide hQQ ?_)
     (try clear hQQ QQ)
     refine evAny_one (i := 3) (by kernel_rfl) rfl ?_
     refine hideO fun QQ hQQ => ?_
     (refine tsF ?_; try clear hQQ QQ)
     have h1 := h1 bb
     unfold YF YH at h1
     (refine callO_S [6, 5] (h1) rfl rfl qF qF Tryz.func51 rfl (by decide) (by rfl) qAF (by decide) (by decide) qCF ?_); refine tsF ?_; try clear hQQ QQ
     (try refine unhide hQQ ?_)
     (try clear hQQ QQ)
     refine evAny_one (i := 5) (by kernel_rfl) rfl ?_
     refine hideO fun QQ hQQ => ?_
     (refine tsF ?_; try clear hQQ QQ)
     (try refine unhide hQQ ?_)
     (try clear hQQ QQ)
     refine evAny_one (i := 6) (by kernel_rfl) rfl ?_
     refine hideO fun QQ hQQ => ?_
     (refine tsF ?_; try clear hQQ QQ)
     (try refine unhide hQQ ?_)
     (try clear hQQ QQ)
     refine evAny_one (i := 7) (by kernel_rfl) rfl ?_
     refine hideO fun QQ hQQ => ?_
     (refine tsF ?_; try clear hQQ QQ)
     (try refine unhide hQQ ?_)
     (try clear hQQ QQ)
     refine evAny_end (by kernel_rfl) ?_ _
     (repeat with_reducible first | apply then_n | apply block_n)
     refine twF ?_; try with_reducible intro QQ hQQ
     (refine aw_ret ⟨.inr rfl, qF, qSN⟩)
   ·refine hideO fun QQ hQQ => ?_
    (refine tsF ?_; try clear hQQ QQ)
    (try refine unhide hQQ ?_)
    (try clear hQQ QQ)
    refine evAny_one (i := 0) (by kernel_rfl) rfl ?_
    refine hideO fun QQ hQQ => ?_
    (refine tsF ?_; try clear hQQ QQ)
    (try refine unhide hQQ ?_)
    (try clear hQQ QQ)
    refine evAny_one (i := 2) (by kernel_rfl) rfl ?_
    refine hideO fun QQ hQQ => ?_
    (refine tsF ?_; try clear hQQ QQ)
    refine callS_ok rfl rfl 42 qF qF Tryz.func42 rfl (by decide) (CallF.mono (c_open_ok hv h Tryz.func50 rfl (by decide) ?_ ?_) ?_); (intro i hi; first | exact (List.not_mem_nil hi).elim | (simp only [List.flatMap_cons, List.flatMap_nil, refsCC, List.append_nil, List.mem_singleton] at hi; subst hi; exact ⟨_, qF⟩) | (simp only [List.flatMap_cons, List.flatMap_nil, refsCC, List.append_nil, List.cons_append, List.nil_append, List.mem_cons, List.mem_nil_iff, or_false] at hi; first | (rcases hi with rfl | rfl <;> exact ⟨_, qF⟩) | (rcases hi with rfl | rfl | rfl <;> exact ⟨_, qF⟩))); (exact is_box1 (c := 1) hS (by rfl) (by first | decide | (dsimp only; omega))); rintro _ _ ⟨bb, rfl, rfl⟩; refine tsF ?_; try clear hQQ QQ
    unfold YD.cells YD.mapO
    (try refine unhide hQQ ?_)
    (try clear hQQ QQ)
    refine evAny_one (i := 3) (by kernel_rfl) rfl ?_
    refine hideO fun QQ hQQ => ?_
    (refine tsF ?_; try clear hQQ QQ)
    have h1 := h1 bb
    unfold YF YH at h1
    (refine callO_S [6, 5] (h1) rfl rfl qF qF Tryz.func51 rfl (by decide) (by rfl) qAF (by decide) (by decide) qCF ?_); refine tsF ?_; try clear hQQ QQ
    (try refine unhide hQQ ?_)
    (try clear hQQ QQ)
    refine evAny_one (i := 5) (by kernel_rfl) rfl ?_
    refine hideO fun QQ hQQ => ?_
    (refine tsF ?_; try clear hQQ QQ)
    (try refine unhide hQQ ?_)
    (try clear hQQ QQ)
    refine evAny_one (i := 6) (by kernel_rfl) rfl ?_
    refine hideO fun QQ hQQ => ?_
    (refine tsF ?_; try clear hQQ QQ)
    (try refine unhide hQQ ?_)
    (try clear hQQ QQ)
    refine evAny_one (i := 7) (by kernel_rfl) rfl ?_
    refine hideO fun QQ hQQ => ?_
    (refine tsF ?_; try clear hQQ QQ)
    (try refine unhide hQQ ?_)
    (try clear hQQ QQ)
    refine evAny_end (by kernel_rfl) ?_ _
    (repeat with_reducible first | apply then_n | apply block_n)
    refine twF ?_; try with_reducible intro QQ hQQ
    (refine aw_ret ⟨.inr rfl, qF, qSN⟩)
  ·refine hideO fun QQ hQQ => ?_
   (refine tsF ?_; try clear hQQ QQ)
   (try refine unhide hQQ ?_)
   (try clear hQQ QQ)
   refine evAny_two (i := 0) (j := 1) (by kernel_rfl) rfl rfl ?_ ?_
   ·refine hideO fun QQ hQQ => ?_
    (refine tsF ?_; try clear hQQ QQ)
    (try refine unhide hQQ ?_)
    (try clear hQQ QQ)
    refine evAny_one (i := 1) (by kernel_rfl) rfl ?_
    refine hideO fun QQ hQQ => ?_
    (refine tsF ?_; try clear hQQ QQ)
    (try refine unhide hQQ ?_)
    (try clear hQQ QQ)
    refine evAny_one (i := 2) (by kernel_rfl) rfl ?_
    refine hideO fun QQ hQQ => ?_
    (refine tsF ?_; try clear hQQ QQ)
    refine callS_ok rfl rfl 42 qF qF Tryz.func42 rfl (by decide) (CallF.mono (c_open_ok hv h Tryz.func50 rfl (by decide) ?_ ?_) ?_); (intro i hi; first | exact (List.not_mem_nil hi).elim | (simp only [List.flatMap_cons, List.flatMap_nil, refsCC, List.append_nil, List.mem_singleton] at hi; subst hi; exact ⟨_, qF⟩) | (simp only [List.flatMap_cons, List.flatMap_nil, refsCC, List.append_nil, List.cons_append, List.nil_append, List.mem_cons, List.mem_nil_iff, or_false] at hi; first | (rcases hi with rfl | rfl <;> exact ⟨_, qF⟩) | (rcases hi with rfl | rfl | rfl <;> exact ⟨_, qF⟩))); (exact is_box1 (c := 1) hS (by rfl) (by first | decide | (dsimp only; omega))); rintro _ _ ⟨bb, rfl, rfl⟩; refine tsF ?_; try clear hQQ QQ
    unfold YD.cells YD.mapO
    (try refine unhide hQQ ?_)
    (try clear hQQ QQ)
    refine evAny_one (i := 3) (by kernel_rfl) rfl ?_
    refine hideO fun QQ hQQ => ?_
    (refine tsF ?_; try clear hQQ QQ)
    have h1 := h1 bb
    unfold YF YH at h1
    (refine callO_S [6, 5] (h1) rfl rfl qF qF Tryz.func51 rfl (by decide) (by rfl) qAF (by decide) (by decide) qCF ?_); refine tsF ?_; try clear hQQ QQ
    (try refine unhide hQQ ?_)
    (try clear hQQ QQ)
    refine evAny_one (i := 5) (by kernel_rfl) rfl ?_
    refine hideO fun QQ hQQ => ?_
    (refine tsF ?_; try clear hQQ QQ)
    (try refine unhide hQQ ?_)
    (try clear hQQ QQ)
    refine evAny_one (i := 6) (by kernel_rfl) rfl ?_
    refine hideO fun QQ hQQ => ?_
    (refine tsF ?_; try clear hQQ QQ)
    (try refine unhide hQQ ?_)
    (try clear hQQ QQ)
    refine evAny_one (i := 7) (by kernel_rfl) rfl ?_
    refine hideO fun QQ hQQ => ?_
    (refine tsF ?_; try clear hQQ QQ)
    (try refine unhide hQQ ?_)
    (try clear hQQ QQ)
    refine evAny_end (by kernel_rfl) ?_ _
    (repeat with_reducible first | apply then_n | apply block_n)
    refine twF ?_; try with_reducible intro QQ hQQ
    (refine aw_ret ⟨.inr rfl, qF, qSN⟩)
   ·refine hideO fun QQ hQQ => ?_
    (refine tsF ?_; try clear hQQ QQ)
    (try refine unhide hQQ ?_)
    (try clear hQQ QQ)
    refine evAny_one (i := 0) (by kernel_rfl) rfl ?_
    refine hideO fun QQ hQQ => ?_
    (refine tsF ?_; try clear hQQ QQ)
    (try refine unhide hQQ ?_)
    (try clear hQQ QQ)
    refine evAny_one (i := 2) (by kernel_rfl) rfl ?_
    refine hideO fun QQ hQQ => ?_
    (refine tsF ?_; try clear hQQ QQ)
    refine callS_ok rfl rfl 42 qF qF Tryz.func42 rfl (by decide) (CallF.mono (c_open_ok hv h Tryz.func50 rfl (by decide) ?_ ?_) ?_); (intro i hi; first | exact (List.not_mem_nil hi).elim | (simp only [List.flatMap_cons, List.flatMap_nil, refsCC, List.append_nil, List.mem_singleton] at hi; subst hi; exact ⟨_, qF⟩) | (simp only [List.flatMap_cons, List.flatMap_nil, refsCC, List.append_nil, List.cons_append, List.nil_append, List.mem_cons, List.mem_nil_iff, or_false] at hi; first | (rcases hi with rfl | rfl <;> exact ⟨_, qF⟩) | (rcases hi with rfl | rfl | rfl <;> exact ⟨_, qF⟩))); (exact is_box1 (c := 1) hS (by rfl) (by first | decide | (dsimp only; omega))); rintro _ _ ⟨bb, rfl, rfl⟩; refine tsF ?_; try clear hQQ QQ
    unfold YD.cells YD.mapO
    (try refine unhide hQQ ?_)
    (try clear hQQ QQ)
    refine evAny_one (i := 3) (by kernel_rfl) rfl ?_
    refine hideO fun QQ hQQ => ?_
    (refine tsF ?_; try clear hQQ QQ)
    have h1 := h1 bb
    unfold YF YH at h1
    (refine callO_S [6, 5] (h1) rfl rfl qF qF Tryz.func51 rfl (by decide) (by rfl) qAF (by decide) (by decide) qCF ?_); refine tsF ?_; try clear hQQ QQ
    (try refine unhide hQQ ?_)
    (try clear hQQ QQ)
    refine evAny_one (i := 5) (by kernel_rfl) rfl ?_
    refine hideO fun QQ hQQ => ?_
    (refine tsF ?_; try clear hQQ QQ)
    (try refine unhide hQQ ?_)
    (try clear hQQ QQ)
    refine evAny_one (i := 6) (by kernel_rfl) rfl ?_
    refine hideO fun QQ hQQ => ?_
    (refine tsF ?_; try clear hQQ QQ)
    (try refine unhide hQQ ?_)
    (try clear hQQ QQ)
    refine evAny_one (i := 7) (by kernel_rfl) rfl ?_
    refine hideO fun QQ hQQ => ?_
    (refine tsF ?_; try clear hQQ QQ)
    (try refine unhide hQQ ?_)
    (try clear hQQ QQ)
    refine evAny_end (by kernel_rfl) ?_ _
    (repeat with_reducible first | apply then_n | apply block_n)
    refine twF ?_; try with_reducible intro QQ hQQ
    (refine aw_ret ⟨.inr rfl, qF, qSN⟩)
end
section
variable {y : YD} {b : Nat} {o : Obj}
theorem s_isN (h : YOK y) (i k : Int) : FunS Tryz.prog 43 [.one (.box 0 0), .one (.box 2 0), .one (.box 3 0)] ((2, .box [.p (iP i)]) :: (3, .box [.p (iP k)]) :: YH y .nil b o) 4 (.one (.one (.v (.bool (inB i 0 ((y.S : Int) - 1) && inB k 0 (((y.sd i.toNat).sheep.length : Int) - 1)))))) := by
 have ht := s_isStand (c := .nil) (b := b) (o := o) h i
 unfold YH at ht ⊢
 cases b1 : inB i 0 ((y.S : Int) - 1)
 ·rw [b1] at ht
  rw [Bool.false_and]
  refine funS_ok (nt := 23) (rs := [.tmp 4]) Tryz.func43 rfl rfl rfl (by simp) fun Z w0 cap pan dk tm => ?_; simp only [initV, pins, pinOf, List.map_cons, List.map_nil]
  refine tw ?_; try with_reducible intro QQ hQQ
  (refine callD_R [0, 1] (ht) rfl rfl qN qN Tryz.func44 rfl (by decide) (by rfl) qAN (by decide) (by decide) qCN ?_); refine td ?_; try clear hQQ QQ
  refine tw ?_; try with_reducible intro QQ hQQ
  (refine aw_ret ⟨.inr rfl, qMN, qMN, (by simp only [List.mem_cons, List.mem_nil_iff, forall_eq_or_imp, forall_eq, false_imp_iff, implies_true, or_false, and_true]; simp (maxSteps := 400000) (disch := first | decide | omega) only [go_sem, ↓reduceIte]; try exact ⟨rfl, rfl⟩)⟩)
 ·rw [b1] at ht
  rw [Bool.true_and]
  have hi : 0 ≤ i ∧ i ≤ (y.S : Int) - 1 := by simpa [inB] using b1
  obtain ⟨j, rfl⟩ : ∃ j : Nat, i = j := ⟨i.toNat, by omega⟩
  rw [Int.toNat_natCast]
  have hj : j < y.S := by omega
  have hg := sd_mem hj
  have hl2 : y.ss.length = y.S := rfl
  have hsl : ((y.sd j).sheep.map row1).length = (y.sd j).sheep.length := List.length_map _
  have hs16 := sheep_16 (h.ok j hj)
  have hw := ok_within k 0 (((y.sd j).sheep.length : Int) - 1)
  have hrw : SD.row (y.sd j) = [iP (y.sd j).m0.1, iP (y.sd j).m0.2, iP (y.sd j).m1.1, iP (y.sd j).m1.2, iP (y.sd j).m2.1, iP (y.sd j).m2.2, .sl ((y.sd j).runs.map row2), .sl ((y.sd j).sheep.map row1), .sl ((y.sd j).looks.map row3)] := rfl
  generalize y.sd j = s at *
  refine funS_ok (nt := 23) (rs := [.tmp 4]) Tryz.func43 rfl rfl rfl (by simp) fun Z w0 cap pan dk tm => ?_; simp only [initV, pins, pinOf, List.map_cons, List.map_nil]
  refine tw ?_; try with_reducible intro QQ hQQ
  try clear hF
  have hF := And.intro hg (And.intro hl2 (And.intro hsl (hrw)))
  (refine callD_R [0, 1] (ht) rfl rfl qF qF Tryz.func44 rfl (by decide) (by rfl) qAF (by decide) (by decide) qCF ?_); refine tdF ?_; try clear hQQ QQ
  refine twF ?_; try with_reducible intro QQ hQQ
  (refine cDF 45 rfl rfl rfl (hw) Tryz.func45 rfl ?_); refine tdF ?_; try clear hQQ QQ
  refine twF ?_; try with_reducible intro QQ hQQ
  (refine aw_ret ⟨.inr rfl, qMF, qMF, (by simp only [List.mem_cons, List.mem_nil_iff, forall_eq_or_imp, forall_eq, false_imp_iff, implies_true, or_false, and_true]; simp (maxSteps := 400000) (disch := first | decide | omega) only [hF, go_sem, ↓reduceIte]; try exact ⟨rfl, rfl⟩)⟩)
end
end Go.Proofs.YthedkfiebmnghaaGreat
