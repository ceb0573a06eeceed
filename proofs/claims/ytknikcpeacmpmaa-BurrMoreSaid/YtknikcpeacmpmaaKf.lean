/- Kf: texts joined (PvB PvK PvH PvT). -/
import Derived.Test.YtknikcpeacmpmaaKd
import Derived.Test.YtknikcpeacmpmaaKe
import Derived.Test.YtknikcpeacmpmaaKa
import Derived.Laws.OwnMore
set_option linter.all false
/- The logic of plain data: sets as bits. Seat-independent. -/
namespace Go.Pv
open Go Go.RowKit Go.Sh
variable {P : Program}
theorem wrap_nat {n : Nat} (h : n < 2 ^ 63) : IntKind.i64.wrap (n : Int) = n := wrap_id (by omega) (by omega)
theorem ofInt_nat {n : Nat} (h : n < 2 ^ 63) : (BitVec.ofInt 64 (n : Int)).toNat = n := by
  rw [BitVec.toNat_ofInt]; omega
theorem and_lt {a b : Nat} (h : a < 2 ^ 63) : a &&& b < 2 ^ 63 := Nat.lt_of_le_of_lt Nat.and_le_left h
theorem bin_and_nat (T : TypeId) (x y : Operand) {a b : Nat} (ha : a < 2 ^ 63) (hb : b < 2 ^ 63) : binA P .and T x y (.int .i64 (a : Int)) (.int .i64 (b : Int)) = some (.int .i64 ((a &&& b : Nat) : Int)) := by
  rw [bin_and]
  have : (BitVec.ofInt IntKind.i64.bits (a : Int) &&& BitVec.ofInt IntKind.i64.bits (b : Int)).toNat = a &&& b := by
    show (BitVec.ofInt 64 (a : Int) &&& BitVec.ofInt 64 (b : Int)).toNat = a &&& b
    rw [BitVec.toNat_and, ofInt_nat ha, ofInt_nat hb]
  rw [this, wrap_nat (and_lt ha)]
theorem bin_shr_nat (k' : IntKind) (T : TypeId) (x y : Operand) {a n : Nat} (ha : a < 2 ^ 63) (hn : n < 64) : binA P .shr T x y (.int .i64 (a : Int)) (.int k' (n : Int)) = some (.int .i64 ((a >>> n : Nat) : Int)) := by
  rw [bin_shr _ _ _ _ _ _ _ (by omega)]
  have e : min (Int.toNat (n : Int)) IntKind.i64.bits = n := by
    show min (Int.toNat (n : Int)) 64 = n
    rw [Int.toNat_natCast]; omega
  have e2 : (a : Int).fdiv (2 ^ n) = ((a >>> n : Nat) : Int) := by
    rw [Nat.shiftRight_eq_div_pow, Int.fdiv_eq_ediv_of_nonneg _ (by exact_mod_cast Nat.zero_le (2 ^ n))]
    norm_cast
  rw [e, e2]
theorem bin_shl_one (k' : IntKind) (T : TypeId) (x y : Operand) {n : Nat} (hn : n < 62) : binA P .shl T x y (.int .i64 1) (.int k' (n : Int)) = some (.int .i64 ((2 ^ n : Nat) : Int)) := by
  rw [bin_shl _ _ _ _ _ _ _ (by omega)]
  have e : min (Int.toNat (n : Int)) IntKind.i64.bits = n := by
    show min (Int.toNat (n : Int)) 64 = n
    rw [Int.toNat_natCast]; omega
  have e2 : (1 : Int) * 2 ^ n = ((2 ^ n : Nat) : Int) := by rw [Int.one_mul]; norm_cast
  rw [e, e2, wrap_nat]
  exact Nat.pow_lt_pow_right (by decide) (by omega)
/-- A set without another one. -/
def diffN (a b : Nat) : Nat := a ^^^ (a &&& b)
theorem diffN_testBit (a b i : Nat) : (diffN a b).testBit i = (a.testBit i && !b.testBit i) := by
  unfold diffN
  rw [Nat.testBit_xor, Nat.testBit_and]
  cases a.testBit i <;> cases b.testBit i <;> rfl
theorem diffN_le (a b : Nat) : diffN a b ≤ a := by
  have h : diffN a b = a &&& diffN a b := by
    apply Nat.eq_of_testBit_eq
    intro i
    rw [Nat.testBit_and, diffN_testBit]
    cases a.testBit i <;> rfl
  rw [h]; exact Nat.and_le_left
theorem bin_andNot_nat (T : TypeId) (x y : Operand) {a b : Nat} (ha : a < 2 ^ 63) (hb : b < 2 ^ 63) : binA P .andNot T x y (.int .i64 (a : Int)) (.int .i64 (b : Int)) = some (.int .i64 ((diffN a b : Nat) : Int)) := by
  rw [bin_andNot]
  have : (BitVec.ofInt IntKind.i64.bits (a : Int) &&& ~~~ BitVec.ofInt IntKind.i64.bits (b : Int)).toNat = diffN a b := by
    show (BitVec.ofInt 64 (a : Int) &&& ~~~ BitVec.ofInt 64 (b : Int)).toNat = diffN a b
    apply Nat.eq_of_testBit_eq
    intro i
    rw [diffN_testBit, ← BitVec.getLsbD, BitVec.getLsbD_and, BitVec.getLsbD_not]
    have e1 : (BitVec.ofInt 64 (a : Int)).getLsbD i = a.testBit i := by rw [BitVec.getLsbD, ofInt_nat ha]
    have e2 : (BitVec.ofInt 64 (b : Int)).getLsbD i = b.testBit i := by rw [BitVec.getLsbD, ofInt_nat hb]
    rw [e1, e2]
    by_cases hi : i < 64
    · simp [hi]
    · have : a.testBit i = false := Nat.testBit_lt_two_pow (Nat.lt_of_lt_of_le ha (Nat.pow_le_pow_right (by decide) (by omega)))
      simp [this]
  rw [this, wrap_nat (Nat.lt_of_le_of_lt (diffN_le a b) ha)]
end Go.Pv
/- The logic of plain data: sets as bits of an unsigned word. Seat-independent. -/
namespace Go.Pv
open Go Go.RowKit Go.Sh
variable {P : Program}
theorem wrapu_nat {n : Nat} (h : n < 2 ^ 64) : IntKind.u64.wrap (n : Int) = n := wrap_u64 (by omega) (by omega)
theorem ofInt_natu {n : Nat} (h : n < 2 ^ 64) : (BitVec.ofInt 64 (n : Int)).toNat = n := by
  rw [BitVec.toNat_ofInt]; omega
theorem andu_lt {a b : Nat} (h : a < 2 ^ 64) : a &&& b < 2 ^ 64 := Nat.lt_of_le_of_lt Nat.and_le_left h
theorem binu_and (T : TypeId) (x y : Operand) {a b : Nat} (ha : a < 2 ^ 64) (hb : b < 2 ^ 64) : binA P .and T x y (.int .u64 (a : Int)) (.int .u64 (b : Int)) = some (.int .u64 ((a &&& b : Nat) : Int)) := by
  rw [bin_and]
  have : (BitVec.ofInt IntKind.u64.bits (a : Int) &&& BitVec.ofInt IntKind.u64.bits (b : Int)).toNat = a &&& b := by
    show (BitVec.ofInt 64 (a : Int) &&& BitVec.ofInt 64 (b : Int)).toNat = a &&& b
    rw [BitVec.toNat_and, ofInt_natu ha, ofInt_natu hb]
  rw [this, wrapu_nat (andu_lt ha)]
theorem binu_shr (k' : IntKind) (T : TypeId) (x y : Operand) {a n : Nat} (hn : n < 64) : binA P .shr T x y (.int .u64 (a : Int)) (.int k' (n : Int)) = some (.int .u64 ((a >>> n : Nat) : Int)) := by
  rw [bin_shr _ _ _ _ _ _ _ (by omega)]
  have e : min (Int.toNat (n : Int)) IntKind.u64.bits = n := by
    show min (Int.toNat (n : Int)) 64 = n
    rw [Int.toNat_natCast]; omega
  have e2 : (a : Int).fdiv (2 ^ n) = ((a >>> n : Nat) : Int) := by
    rw [Nat.shiftRight_eq_div_pow, Int.fdiv_eq_ediv_of_nonneg _ (by exact_mod_cast Nat.zero_le (2 ^ n))]
    norm_cast
  rw [e, e2]
end Go.Pv
/- make and copy of slices of the call's own. Seat-independent. -/
namespace Go.Pv
open Go Go.RowKit Go.Sh
variable {K : Kx}

theorem own_of {s : Sit} (H : Heap0 s) {t n : Nat} {E : TypeId} {k : Nat} {rows : List (List PV)} {sh : Bool} {u : Value} (ht : s.h t = some (.arr E k rows sh)) (hn : n = rows.length) (h : RelC s (.own t n) u) :
    ∃ xs, s.σ t = some u ∧ s.w.ownsRow s.base E k u rows.length xs ∧ rowsK k rows ∧ Cellwise s.Safe s.w k rows xs := by
  obtain ⟨E', k', rows', sh', l, h1, h2, h3, h4, h5⟩ := h
  rw [ht] at h1; cases h1
  have hu := h4 hn
  subst hu
  obtain ⟨val, xs, g1, g2, g3, g4⟩ := H.objs t _ ht
  rw [h2] at g1; cases g1
  exact ⟨xs, h2, g2, g3, g4⟩

theorem zeros_at {zr : List PV} : ∀ (n i : Nat) (row : List PV), (List.replicate n zr)[i]? = some row → row = zr ∧ i < n := by
  intro n i row h
  rw [List.getElem?_replicate] at h
  split at h
  · cases h; exact ⟨rfl, by assumption⟩
  · cases h
/-- A slice that is made. -/
theorem callS_makeSlice {st : St} {o : Oper} {Q : St → Prop} {T E : TypeId} {x y : Operand} (hd : dstOK K o.dst = true) (ho : o.op = .makeSlice T x y) {k by_ n : Nat} {zr : List PV} {kx ky : IntKind}
    (hT : sliceElem K.P T = some E) (hE : tySize K.P E = some k) (hB : tyBytes K.P E = some by_) (hZ : tyZero K.P E = some (zr.map .p)) (hzl : zr.length = k) (hx : plain1 (AL.get st.fr) x = some (.int kx (n : Int))) (hy : plain1 (AL.get st.fr) y = some (.int ky (n : Int)))
    (hn : n * k ≤ 16777216) (hb : by_ * n ≤ 281474976710656) (hm : n ≤ maxLen) (h : Q ((st.upd (some (st.nx, .arr E k (List.replicate n zr) false))).put o.dst (.one (.own st.nx n)))) : CallS K st o Q := by
  intro σ a w hrel
  refine wpIn_of (by rw [ho]; intro c hc; cases hc) ?_
  simp only [plain1, Option.bind_eq_some_iff] at hx hy
  obtain ⟨ax, hax, hpx⟩ := hx
  obtain ⟨ay, hay, hpy⟩ := hy
  have e1 := plainOf_rel (hrel.evF x ax hax) hpx
  have e2 := plainOf_rel (hrel.evF y ay hay) hpy
  have hu := underlying_slice hT
  unfold tySize at hE
  unfold tyBytes at hB
  unfold tyZero at hZ
  simp only [Option.map_eq_some_iff, Option.bind_eq_some_iff] at hE hB hZ
  obtain ⟨i, hi, hik⟩ := hE
  obtain ⟨i2, hi2, hib⟩ := hB
  rw [hi] at hi2; cases hi2
  obtain ⟨z, ⟨i3, hi3, hzi⟩, hzc⟩ := hZ
  rw [hi] at hi3; cases hi3
  have hzr := relCs_zero (s := sit K σ st w) hzc
  have hzs : z.cells.size = k := by rw [hzr.1, List.length_map, hzl]
  obtain ⟨w', hrun, hown, hgrow⟩ := run_makeSlice_full (P := K.P) w K.w0.heap.size T E i z k hu hi hzi hik kx ky n hn (by rw [hib]; exact hb) hm hrel.frm.size
  have hrun2 : (execOp a.eval o).run K.P w = .ok (.value (.slice (some ⟨w.heap.size, 0, none⟩) n n)) w' := by
    simp [execOp, ho, e1, e2, hrun]
  rw [hrun2, Oper.uponIn_value]
  have hl : (List.replicate n zr).length = n := by simp
  have hk : rowsK k (List.replicate n zr) := fun i row hi => by rw [(zeros_at n i row hi).1]; exact hzl
  have hcw : Cellwise (sit K σ st w).Safe w k (List.replicate n zr) (madeCells z.cells (n * k)).toList := by
    intro i row j c hi hj
    obtain ⟨rfl, hin⟩ := zeros_at n i row hi
    have hjk : j < k := by rw [← hzl]; exact (List.getElem?_eq_some_iff.1 hj).1
    obtain ⟨u, hu, hru⟩ := hzr.2 j (.p c) (by rw [List.getElem?_map, hj]; rfl)
    refine ⟨u, ?_, hru⟩
    have hjj : i * k + j < n * k := by
      have : (i + 1) * k ≤ n * k := Nat.mul_le_mul_right k hin
      rw [Nat.add_mul, Nat.one_mul] at this; omega
    have hmod : (i * k + j) % k = j := by rw [Nat.mul_comm, Nat.mul_add_mod]; exact Nat.mod_eq_of_lt hjk
    unfold madeCells
    rw [Array.getElem?_toList, Array.getElem?_map, Array.getElem?_range, if_pos hjj, hzs]
    simp only [Option.map_some, hmod]
    rw [Array.getElem!_eq_getD, Array.getD_eq_getD_getElem?, hu]; rfl
  have hnone := hrel.fresh (Nat.le_refl _)
  obtain ⟨q1, q2⟩ := new_arr hrel.heap (s := sit K σ st w) (id := st.nx) hnone hrel.frm.size false (rows := List.replicate n zr) (E := E) (by rw [hl]; exact hown) hgrow (by intro b hb; simp [Value.ownBlock] at hb; subst hb; exact Nat.le_refl _) hk hcw
  have hp : Put (sit K σ st w) st.nx (.arr E k (List.replicate n zr) false) (.slice (some ⟨w.heap.size, 0, none⟩) n n) w' := ⟨q1, q2, fun k hk _ => hgrow.block k hk (by simp), hgrow.size, hgrow.os, hgrow.tape, hgrow.output⟩
  refine ⟨_, _, hrel.put_upd hp hd (av := .one (.own st.nx n)) ?_, h⟩
  exact ⟨E, k, List.replicate n zr, false, _, upd_same _ _ _, upd_same _ _ _, by rw [hl]; exact Nat.le_refl _, fun _ => rfl, fun hlt => by rw [hl] at hlt; omega⟩
end Go.Pv
/- copy of fewer rows than there are. Own work, free of the seat. -/
namespace Go.Pv
open Go Go.RowKit Go.Sh
variable {K : Kx}
theorem run_copy_zeroN {P : Program} (w : World) (dT sT ty elem : TypeId) (d a : Option Addr) (dLen dCap sCap size : Nat) (hu : P.underlying dT = some (.slice elem)) (hs : (P.info? elem).map (·.size) = some size) :
    (Builtin.copy_ #[dT, sT] ty #[.slice d dLen dCap, .slice a 0 sCap]).run P w = .ok (goInt 0) w := by
  cases hq : P.info? elem with
  | none => simp [hq] at hs
  | some i =>
    have hl : ∀ (x : Addr), (loadCells x 0).run P w = .ok #[] w := fun x => by simpa using run_loadCells_list (P := P) w x [] (by simp)
    cases d <;> cases a <;> simp [Builtin.copy_, run_underlying hu, Builtin.lenOf, Builtin.firstCells, sizeOf, typeInfo, hq, storeCells, hl]
theorem cell_over {Z : Zn} {w : World} {k : Nat} {xr rows : List (List PV)} {news xs : List Value} (hk : rowsK k xr) (hrk : rowsK k rows) (hnl : news.length = xr.length * k) (h1 : Cellwise Z w k xr news) (h2 : Cellwise Z w k rows xs) : Cellwise Z w k (xr ++ rows.drop xr.length) (news ++ xs.drop news.length) := by
  intro i row j c hi hj
  by_cases hil : i < xr.length
  · rw [List.getElem?_append_left hil] at hi
    obtain ⟨u, hu, hr⟩ := h1 i row j c hi hj
    refine ⟨u, ?_, hr⟩
    rw [List.getElem?_append_left (List.getElem?_eq_some_iff.1 hu).1]
    exact hu
  · rw [List.getElem?_append_right (by omega), List.getElem?_drop, show xr.length + (i - xr.length) = i by omega] at hi
    obtain ⟨u, hu, hr⟩ := h2 i row j c hi hj
    refine ⟨u, ?_, hr⟩
    have : xr.length * k ≤ i * k := Nat.mul_le_mul_right k (by omega)
    rw [List.getElem?_append_right (by omega), List.getElem?_drop, show news.length + (i * k + j - news.length) = i * k + j by omega]
    exact hu
/-- copy of no more rows than there are. -/
theorem callS_copyLe {st : St} {o : Oper} {Q : St → Prop} {x y : Operand} {T T' : TypeId} (hd : dstOK K o.dst = true) (ho : o.op = .call { callee := .builtin .copy, args := #[x, y], argTypes := #[T, T'] }) {t n k : Nat} {E : TypeId} {rows xr : List (List PV)} {av : AV}
    (hT : sliceElem K.P T = some E) (hE : tySize K.P E = some k) (h0 : 0 < k) (hx : evalA (AL.get st.fr) x = some (.one (.own t n))) (ht : AL.get st.hp t = some (.arr E k rows false)) (hn : n = rows.length)
    (hy : evalA (AL.get st.fr) y = some av) (hr : rowsOfA (AL.get st.hp) av = some xr) (hk : rowsK k xr) (hl : xr.length ≤ rows.length) (h : Q ((st.upd (some (t, .arr E k (xr ++ rows.drop xr.length) false))).put o.dst (.one (.p (.v (.int .i64 (xr.length : Int))))))) : CallS K st o Q := by
  intro σ a w hrel
  obtain ⟨xs, hσ, hown, hrk, hcw⟩ := own_of hrel.heap (s := sit K σ st w) ht hn (hrel.evF x _ hx)
  obtain ⟨ao, cap, news, hyv, hnl, hcw2, hone, hnone, hsome⟩ := (rowsOfA_src hrel.heap h0 (hrel.evF y av hy) hr hk).ex
  have hu := underlying_slice hT
  have hsz : (K.P.info? E).map (·.size) = some k := hE
  have hbase : K.w0.heap.size ≤ w.heap.size := hrel.frm.size
  refine wpIn_of (by rw [ho]; intro c hc; cases hc) ?_
  have key : ∃ w', (Builtin.copy_ #[T, T'] o.type #[a.eval x, a.eval y]).run K.P w = .ok (.int .i64 (xr.length : Int)) w' ∧ Put (sit K σ st w) t (.arr E k (xr ++ rows.drop xr.length) false) (a.eval x) w' := by
    rcases hown.2 with ⟨hval, hz⟩ | ⟨g, cap', cur, hval, hbg, hg, hcap, hmax, hcur, htk⟩
    · have hxr : xr = [] := List.eq_nil_of_length_eq_zero (by omega)
      have hrw : rows = [] := List.eq_nil_of_length_eq_zero hz
      subst hxr hrw
      have hrun := run_copy_noneN (P := K.P) w T T' o.type E none ao 0 cap k hu hsz
      rw [← show a.eval x = .slice none 0 0 from hval] at hrun
      rw [hyv]
      refine ⟨w, by rw [show ([] : List (List PV)).length = 0 from rfl, hrun]; rfl, ?_⟩
      obtain ⟨p1, p2⟩ := set_arr hrel.heap (s := sit K σ st w) (rows' := []) ht hσ (xs' := xs) (w' := w) rfl (fun _ _ => rfl) (locBlk_own hown) hown rfl hrk hcw
      exact ⟨p1, p2, fun _ _ _ => rfl, Nat.le_refl _, rfl, rfl, rfl⟩
    · have hval : a.eval x = .slice (some ⟨g, 0, none⟩) rows.length cap' := hval
      by_cases hxe : xr = []
      · subst hxe
        have hrun := run_copy_zeroN (P := K.P) w T T' o.type E (some ⟨g, 0, none⟩) ao rows.length cap' cap k hu hsz
        rw [hyv, hval]
        refine ⟨w, by rw [show ([] : List (List PV)).length = 0 from rfl, hrun]; rfl, ?_⟩
        rw [← hval]
        obtain ⟨p1, p2⟩ := set_arr hrel.heap (s := sit K σ st w) (rows' := rows) ht hσ (xs' := xs) (w' := w) rfl (fun _ _ => rfl) (locBlk_own hown) hown rfl hrk hcw
        exact ⟨p1, p2, fun _ _ _ => rfl, Nat.le_refl _, rfl, rfl, rfl⟩
      · cases hao : ao with
        | none => exact absurd (hnone hao) hxe
        | some ad =>
          have hck : rows.length * k ≤ cap' * k := Nat.mul_le_mul_right k hcap
          have hmin : Nat.min xr.length rows.length = xr.length := Nat.min_eq_left hl
          have hxk : xr.length * k ≤ rows.length * k := Nat.mul_le_mul_right k hl
          have hsrc := hsome ad hao
          have hrun := run_copy_rowN (P := K.P) w T T' o.type E g 0 rows.length cap' ad xr.length cap k cur E news hu hsz hg (by rw [hmin, hnl]) (fun j v hj => hsrc j v hj) (by rw [hnl, hcur]; omega) hone
          rw [hyv, hao, hval]
          simp only [List.take_zero, List.nil_append, Nat.zero_add] at hrun
          obtain ⟨cur2, hcur2⟩ : ∃ c2, news ++ cur.toList.drop news.length = c2 := ⟨_, rfl⟩
          rw [hcur2] at hrun
          have hc2l : cur2.length = cap' * k := by
            rw [← hcur2, List.length_append, List.length_drop, hnl]
            simp only [Array.length_toList, hcur]; omega
          refine ⟨_, by rw [hrun, hmin]; rfl, ?_⟩
          rw [← hval]
          have hrl : (xr ++ rows.drop xr.length).length = rows.length := by rw [List.length_append, List.length_drop]; omega
          have hown2 : (w.setRow g cur2.toArray).ownsRow K.w0.heap.size E k (a.eval x) (xr ++ rows.drop xr.length).length (cur2.take ((xr ++ rows.drop xr.length).length * k)) := by
            rw [hrl]
            refine ⟨by rw [List.length_take, hc2l]; exact Nat.min_eq_left hck, .inr ⟨g, cap', cur2.toArray, hval, hbg, setRow_heap w g cur _ E _ hg, hcap, hmax, by simpa using hc2l, by simp⟩⟩
          have htake : cur2.take ((xr ++ rows.drop xr.length).length * k) = news ++ xs.drop news.length := by
            rw [hrl, ← hcur2, List.take_append, hnl, List.take_of_length_le (by omega)]
            congr 1
            rw [← htk, List.drop_take]
          rw [htake] at hown2
          have hrk2 : rowsK k (xr ++ rows.drop xr.length) := fun i row h => by
            by_cases hil : i < xr.length
            · rw [List.getElem?_append_left hil] at h; exact hk i row h
            · rw [List.getElem?_append_right (by omega), List.getElem?_drop] at h; exact hrk _ row h
          obtain ⟨p1, p2⟩ := set_arr hrel.heap (s := sit K σ st w) (rows' := xr ++ rows.drop xr.length) ht hσ (xs' := news ++ xs.drop news.length) (w' := w.setRow g cur2.toArray) (setRow_size w g _) (fun b hb => setRow_other w g b _ (hb g (by rw [hval]; rfl))) (locBlk_own hown) hown2 hrl hrk2 (cell_over hk hrk hnl hcw2 hcw)
          exact ⟨p1, p2, fun b hb hl => setRow_other w g b _ (fun e => hl _ hσ (by rw [hval, e]; rfl)), by rw [setRow_size]; exact Nat.le_refl _, rfl, rfl, rfl⟩
  obtain ⟨w', hrun, hp⟩ := key
  have hrun2 : (execOp a.eval o).run K.P w = .ok (.value (.int .i64 (xr.length : Int))) w' := by
    simp [execOp, ho, resolve, invoke, builtin, hrun, Result.andThen]
  rw [hrun2, Oper.uponIn_value]
  exact ⟨_, _, hrel.put_upd hp hd (av := .one (.p (.v (.int .i64 (xr.length : Int))))) (.v _ rfl), h⟩

end Go.Pv
