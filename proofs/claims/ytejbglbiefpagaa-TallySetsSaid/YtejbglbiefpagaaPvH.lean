/- make and copy of slices of the call's own. Seat-independent. -/
import Derived.Test.YtejbglbiefpagaaKe
import Derived.Test.YtejbglbiefpagaaKa
import Derived.Laws.OwnMore
set_option linter.all false
namespace Go.Pv
open Go Go.RowKit Go.Sh
variable {K : Kx}

theorem own_of {s : Sit} (H : Heap0 s) {t n : Nat} {E : TypeId} {k : Nat} {rows : List (List PV)} {sh : Bool} {u : Value} (ht : s.h t = some (.arr E k rows sh)) (hn : n = rows.length) (h : RelC s (.own t n) u) :
    ∃ xs, s.σ t = some u ∧ s.w.ownsRow s.base E k u rows.length xs ∧ rowsK k rows ∧ Cellwise s.Safe s.w k rows xs := by
  obtain ⟨E', k', rows', sh', l, h1, h2, h3, h4, h5⟩ := h
  rw [ht] at h1; cases h1
  have hu := h4 hn
  subst hu
  obtain ⟨val, xs, g1, g2, g3, g4⟩ := H.objs t _ ht
  rw [h2] at g1; cases g1
  exact ⟨xs, h2, g2, g3, g4⟩

/-- copy of as many rows as there are. -/
theorem callS_copy {st : St} {o : Oper} {Q : St → Prop} {x y : Operand} {T T' : TypeId} (hd : dstOK K o.dst = true) (ho : o.op = .call { callee := .builtin .copy, args := #[x, y], argTypes := #[T, T'] }) {t n k : Nat} {E : TypeId} {rows xr : List (List PV)} {av : AV}
    (hT : sliceElem K.P T = some E) (hE : tySize K.P E = some k) (h0 : 0 < k) (hx : evalA (AL.get st.fr) x = some (.one (.own t n))) (ht : AL.get st.hp t = some (.arr E k rows false)) (hn : n = rows.length)
    (hy : evalA (AL.get st.fr) y = some av) (hr : rowsOfA (AL.get st.hp) av = some xr) (hk : rowsK k xr) (hl : xr.length = rows.length) (h : Q ((st.upd (some (t, .arr E k xr false))).put o.dst (.one (.p (.v (.int .i64 (n : Int))))))) : CallS K st o Q := by
  intro σ a w hrel
  obtain ⟨xs, hσ, hown, hrk, hcw⟩ := own_of hrel.heap (s := sit K σ st w) ht hn (hrel.evF x _ hx)
  obtain ⟨ao, cap, news, hyv, hnl, hcw2, hone, hnone, hsome⟩ := (rowsOfA_src hrel.heap h0 (hrel.evF y av hy) hr hk).ex
  have hu := underlying_slice hT
  have hsz : (K.P.info? E).map (·.size) = some k := hE
  have hbase : K.w0.heap.size ≤ w.heap.size := hrel.frm.size
  refine wpIn_of (by rw [ho]; intro c hc; cases hc) ?_
  have key : ∃ w', (Builtin.copy_ #[T, T'] o.type #[a.eval x, a.eval y]).run K.P w = .ok (.int .i64 (n : Int)) w' ∧ Put (sit K σ st w) t (.arr E k xr false) (a.eval x) w' := by
    rcases hown.2 with ⟨hval, hz⟩ | ⟨g, cap', cur, hval, hbg, hg, hcap, hmax, hcur, htk⟩
    · have hxr : xr = [] := List.eq_nil_of_length_eq_zero (by omega)
      have hrw : rows = [] := List.eq_nil_of_length_eq_zero hz
      subst hxr hrw
      have hrun := run_copy_noneN (P := K.P) w T T' o.type E none ao 0 cap k hu hsz
      rw [← show a.eval x = .slice none 0 0 from hval] at hrun
      rw [hyv]
      refine ⟨w, by rw [show ([] : List (List PV)).length = 0 from rfl, hrun, hn]; rfl, ?_⟩
      obtain ⟨p1, p2⟩ := set_arr hrel.heap (s := sit K σ st w) (rows' := []) ht hσ (xs' := xs) (w' := w) rfl (fun _ _ => rfl) (locBlk_own hown) hown rfl hrk hcw
      exact ⟨p1, p2, fun _ _ _ => rfl, Nat.le_refl _, rfl, rfl, rfl⟩
    · have hval : a.eval x = .slice (some ⟨g, 0, none⟩) rows.length cap' := hval
      by_cases hxe : xr = []
      · have hrw : rows = [] := List.eq_nil_of_length_eq_zero (by rw [← hl, hxe]; rfl)
        subst hxe hrw
        have hrun := run_copy_noneN (P := K.P) w T T' o.type E (some ⟨g, 0, none⟩) ao cap' cap k hu hsz
        rw [hyv, hval]
        refine ⟨w, by rw [show ([] : List (List PV)).length = 0 from rfl, hrun, hn]; rfl, ?_⟩
        rw [← hval]
        obtain ⟨p1, p2⟩ := set_arr hrel.heap (s := sit K σ st w) (rows' := []) ht hσ (xs' := xs) (w' := w) rfl (fun _ _ => rfl) (locBlk_own hown) hown rfl hrk hcw
        exact ⟨p1, p2, fun _ _ _ => rfl, Nat.le_refl _, rfl, rfl, rfl⟩
      · cases hao : ao with
        | none => exact absurd (hnone hao) hxe
        | some ad =>
          have hck : rows.length * k ≤ cap' * k := Nat.mul_le_mul_right k hcap
          have hmin : Nat.min xr.length rows.length = rows.length := by rw [hl]; exact Nat.min_self _
          have hsrc := hsome ad hao
          have hrun := run_copy_rowN (P := K.P) w T T' o.type E g 0 rows.length cap' ad xr.length cap k cur E news hu hsz hg (by rw [hmin, hnl, hl]) (fun j v hj => hsrc j v hj) (by rw [hnl, hl, hcur]; omega) hone
          rw [hyv, hao, hval]
          simp only [List.take_zero, List.nil_append, Nat.zero_add] at hrun
          obtain ⟨cur2, hcur2⟩ : ∃ c2, news ++ cur.toList.drop news.length = c2 := ⟨_, rfl⟩
          rw [hcur2] at hrun
          have hc2l : cur2.length = cap' * k := by
            rw [← hcur2, List.length_append, List.length_drop, hnl, hl]
            simp only [Array.length_toList, hcur]; omega
          refine ⟨_, by rw [hrun, hmin, hn]; rfl, ?_⟩
          rw [← hval]
          have hown2 : (w.setRow g cur2.toArray).ownsRow K.w0.heap.size E k (a.eval x) xr.length (cur2.take (xr.length * k)) := by
            rw [hl]
            refine ⟨by rw [List.length_take, hc2l]; exact Nat.min_eq_left hck, .inr ⟨g, cap', cur2.toArray, hval, hbg, setRow_heap w g cur _ E _ hg, hcap, hmax, by simpa using hc2l, by simp⟩⟩
          have htake : cur2.take (xr.length * k) = news := by
            rw [← hcur2, ← hnl, List.take_left]
          rw [htake] at hown2
          obtain ⟨p1, p2⟩ := set_arr hrel.heap (s := sit K σ st w) (rows' := xr) ht hσ (xs' := news) (w' := w.setRow g cur2.toArray) (setRow_size w g _) (fun b hb => setRow_other w g b _ (hb g (by rw [hval]; rfl))) (locBlk_own hown) hown2 hl hk hcw2
          exact ⟨p1, p2, fun b hb hl => setRow_other w g b _ (fun e => hl _ hσ (by rw [hval, e]; rfl)), by rw [setRow_size]; exact Nat.le_refl _, rfl, rfl, rfl⟩
  obtain ⟨w', hrun, hp⟩ := key
  have hrun2 : (execOp a.eval o).run K.P w = .ok (.value (.int .i64 (n : Int))) w' := by
    simp [execOp, ho, resolve, invoke, builtin, hrun, Result.andThen]
  rw [hrun2, Oper.uponIn_value]
  exact ⟨_, _, hrel.put_upd hp hd (av := .one (.p (.v (.int .i64 (n : Int))))) (.v _ rfl), h⟩

theorem zeros_at {zr : List PV} : ∀ (n i : Nat) (row : List PV), (List.replicate n zr)[i]? = some row → row = zr ∧ i < n := by
  intro n i row h
  rw [List.getElem?_replicate] at h
  split at h
  · cases h; exact ⟨rfl, by assumption⟩
  · cases h
/-- A slice that is made. -/
theorem callS_makeSlice {st : St} {o : Oper} {Q : St → Prop} {T E : TypeId} {x y : Operand} (hd : dstOK K o.dst = true) (ho : o.op = .makeSlice T x y) {k by_ n : Nat} {zr : List PV} {kx ky : IntKind}
    (hT : sliceElem K.P T = some E) (hE : tySize K.P E = some k) (hB : tyBytes K.P E = some by_) (hZ : tyZero K.P E = some (zr.map .p)) (hzl : zr.length = k) (hx : plain1 (AL.get st.fr) x = some (.int kx (n : Int))) (hy : plain1 (AL.get st.fr) y = some (.int ky (n : Int)))
    (hn : n * k ≤ 16777216) (hb : by_ * n ≤ 281474976710656) (hm : n ≤ maxLen) (h : Q ((st.upd (some (st.nx, .arr E k (List.replicate n zr) false))).put o.dst (.one (.own st.nx n)))) : CallS K st o Q := by
  intro σ a w hrel
  refine wpIn_of (by rw [ho]; intro c hc; cases hc) ?_
  simp only [plain1, Option.bind_eq_some_iff] at hx hy
  obtain ⟨ax, hax, hpx⟩ := hx
  obtain ⟨ay, hay, hpy⟩ := hy
  have e1 := plainOf_rel (hrel.evF x ax hax) hpx
  have e2 := plainOf_rel (hrel.evF y ay hay) hpy
  have hu := underlying_slice hT
  unfold tySize at hE
  unfold tyBytes at hB
  unfold tyZero at hZ
  simp only [Option.map_eq_some_iff, Option.bind_eq_some_iff] at hE hB hZ
  obtain ⟨i, hi, hik⟩ := hE
  obtain ⟨i2, hi2, hib⟩ := hB
  rw [hi] at hi2; cases hi2
  obtain ⟨z, ⟨i3, hi3, hzi⟩, hzc⟩ := hZ
  rw [hi] at hi3; cases hi3
  have hzr := relCs_zero (s := sit K σ st w) hzc
  have hzs : z.cells.size = k := by rw [hzr.1, List.length_map, hzl]
  obtain ⟨w', hrun, hown, hgrow⟩ := run_makeSlice_full (P := K.P) w K.w0.heap.size T E i z k hu hi hzi hik kx ky n hn (by rw [hib]; exact hb) hm hrel.frm.size
  have hrun2 : (execOp a.eval o).run K.P w = .ok (.value (.slice (some ⟨w.heap.size, 0, none⟩) n n)) w' := by
    simp [execOp, ho, e1, e2, hrun]
  rw [hrun2, Oper.uponIn_value]
  have hl : (List.replicate n zr).length = n := by simp
  have hk : rowsK k (List.replicate n zr) := fun i row hi => by rw [(zeros_at n i row hi).1]; exact hzl
  have hcw : Cellwise (sit K σ st w).Safe w k (List.replicate n zr) (madeCells z.cells (n * k)).toList := by
    intro i row j c hi hj
    obtain ⟨rfl, hin⟩ := zeros_at n i row hi
    have hjk : j < k := by rw [← hzl]; exact (List.getElem?_eq_some_iff.1 hj).1
    obtain ⟨u, hu, hru⟩ := hzr.2 j (.p c) (by rw [List.getElem?_map, hj]; rfl)
    refine ⟨u, ?_, hru⟩
    have hjj : i * k + j < n * k := by
      have : (i + 1) * k ≤ n * k := Nat.mul_le_mul_right k hin
      rw [Nat.add_mul, Nat.one_mul] at this; omega
    have hmod : (i * k + j) % k = j := by rw [Nat.mul_comm, Nat.mul_add_mod]; exact Nat.mod_eq_of_lt hjk
    unfold madeCells
    rw [Array.getElem?_toList, Array.getElem?_map, Array.getElem?_range, if_pos hjj, hzs]
    simp only [Option.map_some, hmod]
    rw [Array.getElem!_eq_getD, Array.getD_eq_getD_getElem?, hu]; rfl
  have hnone := hrel.fresh (Nat.le_refl _)
  obtain ⟨q1, q2⟩ := new_arr hrel.heap (s := sit K σ st w) (id := st.nx) hnone hrel.frm.size false (rows := List.replicate n zr) (E := E) (by rw [hl]; exact hown) hgrow (by intro b hb; simp [Value.ownBlock] at hb; subst hb; exact Nat.le_refl _) hk hcw
  have hp : Put (sit K σ st w) st.nx (.arr E k (List.replicate n zr) false) (.slice (some ⟨w.heap.size, 0, none⟩) n n) w' := ⟨q1, q2, fun k hk _ => hgrow.block k hk (by simp), hgrow.size, hgrow.os, hgrow.tape, hgrow.output⟩
  refine ⟨_, _, hrel.put_upd hp hd (av := .one (.own st.nx n)) ?_, h⟩
  exact ⟨E, k, List.replicate n zr, false, _, upd_same _ _ _, upd_same _ _ _, by rw [hl]; exact Nat.le_refl _, fun _ => rfl, fun hlt => by rw [hl] at hlt; omega⟩
end Go.Pv
