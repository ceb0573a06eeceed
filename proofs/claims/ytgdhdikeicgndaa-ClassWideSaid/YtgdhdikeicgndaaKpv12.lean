/- Kpv12: texts joined (PvH PvFa PvFb). -/
import Derived.Test.YtgdhdikeicgndaaKpv3
import Derived.Test.YtgdhdikeicgndaaKba0
import Derived.Laws.OwnMore
import Derived.Test.YtgdhdikeicgndaaKpv1
set_option linter.all false
/- make and copy of slices of the call's own. Seat-independent. -/
namespace Go.Pv
open Go Go.RowKit Go.Sh
variable {K : Kx}

theorem own_of {s : Sit} (H : Heap0 s) {t n : Nat} {E : TypeId} {k : Nat} {rows : List (List PV)} {sh : Bool} {u : Value} (ht : s.h t = some (.arr E k rows sh)) (hn : n = rows.length) (h : RelC s (.own t n) u) :
    ∃ xs, s.σ t = some u ∧ s.w.ownsRow s.base E k u rows.length xs ∧ rowsK k rows ∧ Cellwise s.Safe s.w k rows xs := by
  obtain ⟨E', k', rows', sh', l, h1, h2, h3, h4, h5⟩ := h
  rw [ht] at h1; cases h1
  have hu := h4 hn
  subst hu
  obtain ⟨val, xs, g1, g2, g3, g4⟩ := H.objs t _ ht
  rw [h2] at g1; cases g1
  exact ⟨xs, h2, g2, g3, g4⟩

/-- copy of as many rows as there are. -/
theorem callS_copy {st : St} {o : Oper} {Q : St → Prop} {x y : Operand} {T T' : TypeId} (hd : dstOK K o.dst = true) (ho : o.op = .call { callee := .builtin .copy, args := #[x, y], argTypes := #[T, T'] }) {t n k : Nat} {E : TypeId} {rows xr : List (List PV)} {av : AV}
    (hT : sliceElem K.P T = some E) (hE : tySize K.P E = some k) (h0 : 0 < k) (hx : evalA (AL.get st.fr) x = some (.one (.own t n))) (ht : AL.get st.hp t = some (.arr E k rows false)) (hn : n = rows.length)
    (hy : evalA (AL.get st.fr) y = some av) (hr : rowsOfA (AL.get st.hp) av = some xr) (hk : rowsK k xr) (hl : xr.length = rows.length) (h : Q ((st.upd (some (t, .arr E k xr false))).put o.dst (.one (.p (.v (.int .i64 (n : Int))))))) : CallS K st o Q := by
  intro σ a w hrel
  obtain ⟨xs, hσ, hown, hrk, hcw⟩ := own_of hrel.heap (s := sit K σ st w) ht hn (hrel.evF x _ hx)
  obtain ⟨ao, cap, news, hyv, hnl, hcw2, hone, hnone, hsome⟩ := (rowsOfA_src hrel.heap h0 (hrel.evF y av hy) hr hk).ex
  have hu := underlying_slice hT
  have hsz : (K.P.info? E).map (·.size) = some k := hE
  have hbase : K.w0.heap.size ≤ w.heap.size := hrel.frm.size
  refine wpIn_of (by rw [ho]; intro c hc; cases hc) ?_
  have key : ∃ w', (Builtin.copy_ #[T, T'] o.type #[a.eval x, a.eval y]).run K.P w = .ok (.int .i64 (n : Int)) w' ∧ Put (sit K σ st w) t (.arr E k xr false) (a.eval x) w' := by
    rcases hown.2 with ⟨hval, hz⟩ | ⟨g, cap', cur, hval, hbg, hg, hcap, hmax, hcur, htk⟩
    · have hxr : xr = [] := List.eq_nil_of_length_eq_zero (by omega)
      have hrw : rows = [] := List.eq_nil_of_length_eq_zero hz
      subst hxr hrw
      have hrun := run_copy_noneN (P := K.P) w T T' o.type E none ao 0 cap k hu hsz
      rw [← show a.eval x = .slice none 0 0 from hval] at hrun
      rw [hyv]
      refine ⟨w, by rw [show ([] : List (List PV)).length = 0 from rfl, hrun, hn]; rfl, ?_⟩
      obtain ⟨p1, p2⟩ := set_arr hrel.heap (s := sit K σ st w) (rows' := []) ht hσ (xs' := xs) (w' := w) rfl (fun _ _ => rfl) (locBlk_own hown) hown rfl hrk hcw
      exact ⟨p1, p2, fun _ _ _ => rfl, Nat.le_refl _, rfl, rfl, rfl⟩
    · have hval : a.eval x = .slice (some ⟨g, 0, none⟩) rows.length cap' := hval
      by_cases hxe : xr = []
      · have hrw : rows = [] := List.eq_nil_of_length_eq_zero (by rw [← hl, hxe]; rfl)
        subst hxe hrw
        have hrun := run_copy_noneN (P := K.P) w T T' o.type E (some ⟨g, 0, none⟩) ao cap' cap k hu hsz
        rw [hyv, hval]
        refine ⟨w, by rw [show ([] : List (List PV)).length = 0 from rfl, hrun, hn]; rfl, ?_⟩
        rw [← hval]
        obtain ⟨p1, p2⟩ := set_arr hrel.heap (s := sit K σ st w) (rows' := []) ht hσ (xs' := xs) (w' := w) rfl (fun _ _ => rfl) (locBlk_own hown) hown rfl hrk hcw
        exact ⟨p1, p2, fun _ _ _ => rfl, Nat.le_refl _, rfl, rfl, rfl⟩
      · cases hao : ao with
        | none => exact absurd (hnone hao) hxe
        | some ad =>
          have hck : rows.length * k ≤ cap' * k := Nat.mul_le_mul_right k hcap
          have hmin : Nat.min xr.length rows.length = rows.length := by rw [hl]; exact Nat.min_self _
          have hsrc := hsome ad hao
          have hrun := run_copy_rowN (P := K.P) w T T' o.type E g 0 rows.length cap' ad xr.length cap k cur E news hu hsz hg (by rw [hmin, hnl, hl]) (fun j v hj => hsrc j v hj) (by rw [hnl, hl, hcur]; omega) hone
          rw [hyv, hao, hval]
          simp only [List.take_zero, List.nil_append, Nat.zero_add] at hrun
          obtain ⟨cur2, hcur2⟩ : ∃ c2, news ++ cur.toList.drop news.length = c2 := ⟨_, rfl⟩
          rw [hcur2] at hrun
          have hc2l : cur2.length = cap' * k := by
            rw [← hcur2, List.length_append, List.length_drop, hnl, hl]
            simp only [Array.length_toList, hcur]; omega
          refine ⟨_, by rw [hrun, hmin, hn]; rfl, ?_⟩
          rw [← hval]
          have hown2 : (w.setRow g cur2.toArray).ownsRow K.w0.heap.size E k (a.eval x) xr.length (cur2.take (xr.length * k)) := by
            rw [hl]
            refine ⟨by rw [List.length_take, hc2l]; exact Nat.min_eq_left hck, .inr ⟨g, cap', cur2.toArray, hval, hbg, setRow_heap w g cur _ E _ hg, hcap, hmax, by simpa using hc2l, by simp⟩⟩
          have htake : cur2.take (xr.length * k) = news := by
            rw [← hcur2, ← hnl, List.take_left]
          rw [htake] at hown2
          obtain ⟨p1, p2⟩ := set_arr hrel.heap (s := sit K σ st w) (rows' := xr) ht hσ (xs' := news) (w' := w.setRow g cur2.toArray) (setRow_size w g _) (fun b hb => setRow_other w g b _ (hb g (by rw [hval]; rfl))) (locBlk_own hown) hown2 hl hk hcw2
          exact ⟨p1, p2, fun b hb hl => setRow_other w g b _ (fun e => hl _ hσ (by rw [hval, e]; rfl)), by rw [setRow_size]; exact Nat.le_refl _, rfl, rfl, rfl⟩
  obtain ⟨w', hrun, hp⟩ := key
  have hrun2 : (execOp a.eval o).run K.P w = .ok (.value (.int .i64 (n : Int))) w' := by
    simp [execOp, ho, resolve, invoke, builtin, hrun, Result.andThen]
  rw [hrun2, Oper.uponIn_value]
  exact ⟨_, _, hrel.put_upd hp hd (av := .one (.p (.v (.int .i64 (n : Int))))) (.v _ rfl), h⟩

theorem zeros_at {zr : List PV} : ∀ (n i : Nat) (row : List PV), (List.replicate n zr)[i]? = some row → row = zr ∧ i < n := by
  intro n i row h
  rw [List.getElem?_replicate] at h
  split at h
  · cases h; exact ⟨rfl, by assumption⟩
  · cases h
/-- A slice that is made. -/
theorem callS_makeSlice {st : St} {o : Oper} {Q : St → Prop} {T E : TypeId} {x y : Operand} (hd : dstOK K o.dst = true) (ho : o.op = .makeSlice T x y) {k by_ n : Nat} {zr : List PV} {kx ky : IntKind}
    (hT : sliceElem K.P T = some E) (hE : tySize K.P E = some k) (hB : tyBytes K.P E = some by_) (hZ : tyZero K.P E = some (zr.map .p)) (hzl : zr.length = k) (hx : plain1 (AL.get st.fr) x = some (.int kx (n : Int))) (hy : plain1 (AL.get st.fr) y = some (.int ky (n : Int)))
    (hn : n * k ≤ 16777216) (hb : by_ * n ≤ 281474976710656) (hm : n ≤ maxLen) (h : Q ((st.upd (some (st.nx, .arr E k (List.replicate n zr) false))).put o.dst (.one (.own st.nx n)))) : CallS K st o Q := by
  intro σ a w hrel
  refine wpIn_of (by rw [ho]; intro c hc; cases hc) ?_
  simp only [plain1, Option.bind_eq_some_iff] at hx hy
  obtain ⟨ax, hax, hpx⟩ := hx
  obtain ⟨ay, hay, hpy⟩ := hy
  have e1 := plainOf_rel (hrel.evF x ax hax) hpx
  have e2 := plainOf_rel (hrel.evF y ay hay) hpy
  have hu := underlying_slice hT
  unfold tySize at hE
  unfold tyBytes at hB
  unfold tyZero at hZ
  simp only [Option.map_eq_some_iff, Option.bind_eq_some_iff] at hE hB hZ
  obtain ⟨i, hi, hik⟩ := hE
  obtain ⟨i2, hi2, hib⟩ := hB
  rw [hi] at hi2; cases hi2
  obtain ⟨z, ⟨i3, hi3, hzi⟩, hzc⟩ := hZ
  rw [hi] at hi3; cases hi3
  have hzr := relCs_zero (s := sit K σ st w) hzc
  have hzs : z.cells.size = k := by rw [hzr.1, List.length_map, hzl]
  obtain ⟨w', hrun, hown, hgrow⟩ := run_makeSlice_full (P := K.P) w K.w0.heap.size T E i z k hu hi hzi hik kx ky n hn (by rw [hib]; exact hb) hm hrel.frm.size
  have hrun2 : (execOp a.eval o).run K.P w = .ok (.value (.slice (some ⟨w.heap.size, 0, none⟩) n n)) w' := by
    simp [execOp, ho, e1, e2, hrun]
  rw [hrun2, Oper.uponIn_value]
  have hl : (List.replicate n zr).length = n := by simp
  have hk : rowsK k (List.replicate n zr) := fun i row hi => by rw [(zeros_at n i row hi).1]; exact hzl
  have hcw : Cellwise (sit K σ st w).Safe w k (List.replicate n zr) (madeCells z.cells (n * k)).toList := by
    intro i row j c hi hj
    obtain ⟨rfl, hin⟩ := zeros_at n i row hi
    have hjk : j < k := by rw [← hzl]; exact (List.getElem?_eq_some_iff.1 hj).1
    obtain ⟨u, hu, hru⟩ := hzr.2 j (.p c) (by rw [List.getElem?_map, hj]; rfl)
    refine ⟨u, ?_, hru⟩
    have hjj : i * k + j < n * k := by
      have : (i + 1) * k ≤ n * k := Nat.mul_le_mul_right k hin
      rw [Nat.add_mul, Nat.one_mul] at this; omega
    have hmod : (i * k + j) % k = j := by rw [Nat.mul_comm, Nat.mul_add_mod]; exact Nat.mod_eq_of_lt hjk
    unfold madeCells
    rw [Array.getElem?_toList, Array.getElem?_map, Array.getElem?_range, if_pos hjj, hzs]
    simp only [Option.map_some, hmod]
    rw [Array.getElem!_eq_getD, Array.getD_eq_getD_getElem?, hu]; rfl
  have hnone := hrel.fresh (Nat.le_refl _)
  obtain ⟨q1, q2⟩ := new_arr hrel.heap (s := sit K σ st w) (id := st.nx) hnone hrel.frm.size false (rows := List.replicate n zr) (E := E) (by rw [hl]; exact hown) hgrow (by intro b hb; simp [Value.ownBlock] at hb; subst hb; exact Nat.le_refl _) hk hcw
  have hp : Put (sit K σ st w) st.nx (.arr E k (List.replicate n zr) false) (.slice (some ⟨w.heap.size, 0, none⟩) n n) w' := ⟨q1, q2, fun k hk _ => hgrow.block k hk (by simp), hgrow.size, hgrow.os, hgrow.tape, hgrow.output⟩
  refine ⟨_, _, hrel.put_upd hp hd (av := .one (.own st.nx n)) ?_, h⟩
  exact ⟨E, k, List.replicate n zr, false, _, upd_same _ _ _, upd_same _ _ _, by rw [hl]; exact Nat.le_refl _, fun _ => rfl, fun hlt => by rw [hl] at hlt; omega⟩
end Go.Pv
/- The logic of plain data: a part of the text is walked in a small state of its own (no objects, other slots as they are), and what it makes is laid beside what was there. Seat-independent. -/
namespace Go.Pv
open Go Go.RowKit Go.Sh
variable {K : Kx}
/-- Slots that are an address or a plain value. -/
def onceV : AV → Bool
  | .one (.p (.v _)) => true
  | .one (.box _ _) => true
  | .one .nil => true
  | _ => false
/-- The same slot in the small state. -/
def smallV (u : Value) : AV → AV
  | .one (.p (.v v)) => .one (.p (.v v))
  | .one .nil => .one .nil
  | _ => .one (.p (.v u))
def smallFr (vals : Nat → Value) : List (Nat × AV) → List (Nat × AV)
  | [] => []
  | (t, av) :: r => (t, smallV (vals t) av) :: smallFr vals r
theorem smallFr_get (vals : Nat → Value) (t : Nat) : ∀ fr : List (Nat × AV), AL.get (smallFr vals fr) t = (AL.get fr t).map (smallV (vals t))
  | [] => rfl
  | (t', av) :: r => by
    by_cases h : t = t'
    · subst h; simp only [smallFr, AL.get_eq, Option.map_some]
    · simp only [smallFr, AL.get_ne _ _ h]; exact smallFr_get vals t r
def Kx.small (K : Kx) (w : World) : Kx := ⟨K.P, fun _ _ => False, w, fun _ => False, K.nt, K.rd, noPan, K.df, K.dk, false⟩
theorem small_rel {σ : Nat → Option Value} {st : St} {a : Act} {w : World} (hr : Rel K σ st a w) (hrg : K.rg = false) {fr0 : List (Nat × AV)} (hf : ∀ t av, AL.get fr0 t = some av → AL.get st.fr t = some av ∧ onceV av = true) :
    Rel (K.small w) (fun _ => none) ⟨smallFr (fun t => a.tmps.getD t undef) fr0, [], 0⟩ a w := by
  refine ⟨⟨fun id o h => (by simp [sit, AL.get] at h), fun id l h => (by simp [sit] at h), fun _ _ _ _ _ h => (by simp [sit] at h), fun _ _ _ h => (by simp [sit] at h)⟩, fun t av ht => ?_, fun id o h => (by simp [AL.get] at h), ?_, hr.nt, Frm.refl _ _⟩
  · simp only [smallFr_get, Option.map_eq_some_iff] at ht
    obtain ⟨av0, h0, rfl⟩ := ht
    obtain ⟨h1, h2⟩ := hf t av0 h0
    obtain ⟨h3, h4⟩ := hr.fr t av0 h1
    refine ⟨h3, ?_⟩
    unfold onceV at h2
    split at h2
    · cases h4 with
      | v _ h => exact .v _ h
    · obtain ⟨cs, blk, e1, e2, e3⟩ := h4
      show RelP _ _ (.v _) _
      rw [e3]
      exact .v _ rfl
    · exact h4
    · cases h2
  · obtain ⟨Ds, h1, h2, h3, h4, h5⟩ := hr.df
    have := h5 hrg
    subst this
    exact ⟨[], h1, List.nodup_nil, fun D hD => (by cases hD), h4, fun _ => rfl⟩
theorem relP_v {s : Sit} {x u : Value} (h : RelV s (.one (.p (.v x))) u) : u = x := by
  have h' : RelP _ _ (.v x) u := h
  cases h'; rfl
theorem small_back {σ : Nat → Option Value} {st : St} {a : Act} {w : World} (hr : Rel K σ st a w) (hrg : K.rg = false) {fr0 : List (Nat × AV)} (hf : ∀ t av, AL.get fr0 t = some av → AL.get st.fr t = some av ∧ onceV av = true)
    {σ' : Nat → Option Value} {st' : St} {a' : Act} {w' : World} (hr' : Rel (K.small w) σ' st' a' w') {d i : Nat} {E : TypeId} {k : Nat} {rows : List (List PV)} (hd : AL.get st'.fr d = some (.one (.own i rows.length))) (hi : AL.get st'.hp i = some (.arr E k rows false))
    (hpl : ∀ (i : Nat) (row : List PV) (j : Nat) (c : PV), rows[i]? = some row → row[j]? = some c → ∃ v, c = .v v) {fr1 : List (Nat × AV)}
    (hk : ∀ t av, AL.get fr1 t = some av → AL.get fr0 t = some av ∧ AL.get st'.fr t = some (smallV (a.tmps.getD t undef) av)) :
    ∃ σ'', Rel K σ'' ⟨(d, .one (.own st.nx rows.length)) :: fr1, AL.set st.hp st.nx (.arr E k rows false), st.nx + 1⟩ a' w' := by
  obtain ⟨val, xs, g1, g2, g3, g4⟩ := hr'.heap.objs i (.arr E k rows false) hi
  have hbase : K.w0.heap.size ≤ w.heap.size := hr.frm.size
  have hfm := hr'.frm
  have hge : ∀ b, val.ownBlock = some b → w.heap.size ≤ b := fun b hb => (g2.lt b hb).1
  have hown : w'.ownsRow (sit K σ st w).base E k val rows.length xs := by
    refine ⟨g2.1, g2.2.imp id fun ⟨g, cap, cur, h0, h1, h2⟩ => ?_⟩
    exact ⟨g, cap, cur, h0, Nat.le_trans hbase h1, h2⟩
  have hs := hr.fresh (Nat.le_refl st.nx)
  have hn := new_arr (s := sit K σ st w) hr.heap (id := st.nx) hs hbase (rows := rows) false hown ⟨hfm.os, hfm.tape, hfm.output, hfm.size, fun k hk _ => hfm.block k hk (fun h => h)⟩ hge g3 (fun i row j c hi hj => by
    obtain ⟨u, hu, hru⟩ := g4 i row j c hi hj
    obtain ⟨v, rfl⟩ := hpl i row j c hi hj
    cases hru with
    | v _ h => exact ⟨_, hu, .v _ h⟩)
  have hp : Put (sit K σ st w) st.nx (.arr E k rows false) val w' := Turn.put hn.1 hn.2 (fun k hk => hfm.block k hk (fun h => h)) hfm.size hfm.os hfm.tape hfm.output
  have hu := hr.upd hp
  have hup : st.upd (some (st.nx, .arr E k rows false)) = ⟨st.fr, AL.set st.hp st.nx (.arr E k rows false), st.nx + 1⟩ := by
    simp [St.upd]
  rw [hup] at hu
  refine ⟨_, hu.heap, fun t av ht => ?_, hu.lt, ?_, hr'.nt, hu.frm⟩
  · by_cases htd : t = d
    · subst htd
      rw [AL.get_eq] at ht; cases ht
      obtain ⟨h1, E', k', rows', sh', l, q1, q2, q3, q4, q5⟩ := hr'.fr t _ hd
      have q1' : AL.get st'.hp i = some (.arr E' k' rows' sh') := q1
      rw [hi] at q1'; cases q1'
      have q2' : σ' i = some l := q2
      have g1' : σ' i = some val := g1
      rw [g1'] at q2'; cases q2'
      exact ⟨h1, E, k, rows, false, val, by simp [sit, AL.get_set_upd, upd_same], by simp [sit, upd_same], Nat.le_refl _, q4, fun hlt => absurd hlt (Nat.lt_irrefl _)⟩
    · rw [AL.get_ne _ _ htd] at ht
      obtain ⟨k1, k2⟩ := hk t av ht
      obtain ⟨k3, k4⟩ := hf t av k1
      obtain ⟨m1, m2⟩ := hu.fr t av k3
      obtain ⟨m3, m4⟩ := hr'.fr t _ k2
      refine ⟨m3, ?_⟩
      have : a'.tmps.getD t undef = a.tmps.getD t undef := by
        unfold onceV at k4
        split at k4
        · have n1 := relP_v m4
          have n2 := relP_v m2
          rw [n1, n2]
        · exact relP_v m4
        · have n1 : a'.tmps.getD t undef = _ := m4
          have n2 : a.tmps.getD t undef = _ := m2
          rw [n1, n2]
        · cases k4
      rw [this]
      exact m2
  · obtain ⟨Ds, h1, h2, h3, h4, h5⟩ := hr'.df
    have := h5 rfl
    subst this
    exact ⟨[], h1, List.nodup_nil, fun D hD => (by cases hD), h4, fun _ => rfl⟩
/-- A part of the text that makes one slice out of plain values and addresses, walked with nothing else about. -/
theorem aw_frame {c : Code} {Q : Exit → St → Prop} {st : St} (fr0 fr1 : List (Nat × AV)) (d : Nat) (E : TypeId) (k : Nat) (rows : List (List PV)) (e0 : Exit) (hrg : K.rg = false) (hf : ∀ t av, AL.get fr0 t = some av → AL.get st.fr t = some av ∧ onceV av = true)
    (hpl : ∀ (i : Nat) (row : List PV) (j : Nat) (c : PV), rows[i]? = some row → row[j]? = some c → ∃ v, c = .v v) (hk1 : ∀ t av, AL.get fr1 t = some av → AL.get fr0 t = some av)
    (h : ∀ (vals : Nat → Value) (w : World), AW ⟨K.P, fun _ _ => False, w, fun _ => False, K.nt, K.rd, noPan, K.df, K.dk, false⟩ c (fun e st' => e = e0 ∧ ∃ i, AL.get st'.fr d = some (.one (.own i rows.length)) ∧ AL.get st'.hp i = some (.arr E k rows false) ∧ ∀ t av, AL.get fr1 t = some av → AL.get st'.fr t = some (smallV (vals t) av)) ⟨smallFr vals fr0, [], 0⟩)
    (hq : Q e0 ⟨(d, .one (.own st.nx rows.length)) :: fr1, AL.set st.hp st.nx (.arr E k rows false), st.nx + 1⟩) : AW K c Q st := by
  intro σ a w hr
  refine wpIn_mono (h (fun t => a.tmps.getD t undef) w _ _ _ (small_rel hr hrg hf)) fun e a' w' hp => ?_
  rcases hp with ⟨σ', st', ⟨rfl, i, h1, h2, h3⟩, hr'⟩ | ⟨ps, rfl, _, _, _, hp⟩
  · obtain ⟨σ'', hr''⟩ := small_back hr hrg hf hr' h1 h2 hpl fun t av ht => ⟨hk1 t av ht, h3 t av ht⟩
    exact .inl ⟨σ'', _, hq, hr''⟩
  · exact hp.elim
end Go.Pv
/- The logic of plain data: what is one's own is lent for a while, as data. Printed in part by genPvFb.py. -/
namespace Go.Pv
open Go Go.RowKit Go.Sh
section
variable {K : Kx}
/-- A walk that begins with nothing deferred. -/
def AW0 (K : Kx) (c : Code) (Q : Exit → St → Prop) (st : St) : Prop :=
  ∀ σ a w, Rel K σ st a w → a.defers = [] → c.wpIn K.F 0 K.P (postA K Q) a w
theorem calls_of_aw0 {fid : FuncId} {fn : Func} {c : Code} {us : Array Value} {w : World} {R : Ending → World → Prop} {Q : Exit → St → Prop} {σ : Nat → Option Value} {st : St} (hf : K.P.funcs[fid]? = some fn) (hb : fn.body = some c) (hrd : K.rd = none) (hdf : K.df = none)
    (hr : Rel K σ st { tmps := us ++ Array.replicate (fn.ntmps - us.size) undef, defers := [] } w) (h : AW0 K c Q st) (hQ : ∀ e st', Q e st' → e = .normal ∨ e = .ret)
    (hend : ∀ e σ' st' a' w', Q e st' → Rel K σ' st' a' w' → ∃ v, (results fn a'.tmps).run K.P w' = .ok v w' ∧ R (.returned v) w') (hpan : ∀ ps σ' st' a' w', K.pan ps st' → Rel K σ' st' a' w' → R (.panicked ps) w') : Calls K.P fid us w R := by
  refine callsIn_wide.1 (callsIn_of_wp_marks (n := 0) hf hb trivial ?_)
  have hF : K.F = Fence.wide := by unfold Kx.F; rw [hrd]; rfl
  have h0 := h σ _ w hr rfl
  rw [hF] at h0
  have hdl : ∀ a : Act, dfL K a = [] := fun a => by unfold dfL; rw [hdf]
  refine wpIn_mono h0 fun e a' w' hp => ?_
  rcases hp with ⟨σ', st', hq, hr'⟩ | ⟨ps, rfl, σ', st', hr', hp⟩
  · obtain ⟨Ds, hds, _⟩ := hr'.df
    rw [hdl] at hds
    have key : LeavesInM Fence.wide 0 K.P fn a'.tmps R a'.defers .returning w' := by
      rw [hds]
      refine leaves_rests (by simp) Ds a' w' hr' hds rfl fun w2 hr2 => ?_
      obtain ⟨v, hv, hR⟩ := hend e σ' st' _ w2 hq hr2
      exact ⟨v, hv, hR⟩
    rcases hQ e st' hq with rfl | rfl
    · exact key
    · exact key
  · obtain ⟨Ds, hds, _⟩ := hr'.df
    rw [hdl] at hds
    show LeavesInM Fence.wide 0 K.P fn a'.tmps R a'.defers (.panicking ps) w'
    rw [hds]
    refine leaves_rests (by simp) Ds a' w' hr' hds rfl fun w2 hr2 => ?_
    exact hpan ps σ' st' _ w2 hp hr2
theorem callF_in0 {fid : FuncId} {avs : List AV} {st : St} {Q : St → AV → Prop} {fn : Func} {c : Code} {nt : Nat} {rs : List ResultVar} (hf : K.P.funcs[fid]? = some fn) (hb : fn.body = some c) (hnt : fn.ntmps = nt) (hrs : fn.results.toList = rs) (hn : avs.length ≤ nt)
    (h : ∀ tm Ds, AW0 (K.callee nt st tm Ds) c (fun e st' => (e = .normal ∨ e = .ret) ∧ ∃ av, resV K.P st' rs = some av ∧ AL.get st'.hp st.nx = some (.kept st.fr tm) ∧ Q ⟨st.fr, st'.hp, st'.nx⟩ av) ⟨initV 0 avs, (st.nx, .kept st.fr tm) :: st.hp, st.nx + 1⟩) : CallF K fid avs st Q := by
  subst hnt hrs
  intro σ a w us hr hus
  have hσ : σ st.nx = none := hr.fresh (Nat.le_refl _)
  obtain ⟨Ds, hDs1, hDs2, hDs3, hDs4, hDs5⟩ := hr.df
  let tm : Nat → Value := fun t => a.tmps.getD t undef
  let st0 : St := ⟨initV 0 avs, (st.nx, .kept st.fr tm) :: st.hp, st.nx + 1⟩
  have hget : ∀ id, id ≠ st.nx → AL.get st0.hp id = AL.get st.hp id := fun id hid => by simp [st0, AL.get, hid]
  have he : Ext (sit K σ st w) (sit K σ st0 w) := by
    refine ⟨fun _ _ _ _ h => h, fun b c _ hs => ⟨hs.1, fun id l hl hb => ?_⟩, fun id cs l h1 h2 => ?_, fun id E k rows sh l h1 h2 => ?_, fun id P k I l h1 h2 => ?_, fun id b r l h1 h2 => ?_, fun id b r l h1 h2 => ?_⟩
    · have hid : id ≠ st.nx := by rintro rfl; simp only [sit] at hl; rw [hσ] at hl; cases hl
      obtain ⟨E, k, rows, h1, h2⟩ := hs.2 id l hl hb
      exact ⟨E, k, rows, by simp only [sit]; rw [hget id hid]; exact h1, h2⟩
    · have hid : id ≠ st.nx := by rintro rfl; simp only [sit] at h2; rw [hσ] at h2; cases h2
      exact ⟨h2, cs, by simp only [sit]; rw [hget id hid]; exact h1⟩
    · have hid : id ≠ st.nx := by rintro rfl; simp only [sit] at h2; rw [hσ] at h2; cases h2
      exact ⟨rows, sh, l, by simp only [sit]; rw [hget id hid]; exact h1, h2, .inl ⟨rfl, rfl, fun h => h⟩⟩
    · have hid : id ≠ st.nx := by rintro rfl; simp only [sit] at h2; rw [hσ] at h2; cases h2
      exact ⟨h2, I, by simp only [sit]; rw [hget id hid]; exact h1⟩
    · have hid : id ≠ st.nx := by rintro rfl; simp only [sit] at h2; rw [hσ] at h2; cases h2
      exact ⟨h2, r, by simp only [sit]; rw [hget id hid]; exact h1⟩
    · have hid : id ≠ st.nx := by rintro rfl; simp only [sit] at h2; rw [hσ] at h2; cases h2
      exact ⟨h2, r, by simp only [sit]; rw [hget id hid]; exact h1⟩
  have hrel : Rel (K.callee fn.ntmps st tm Ds) σ st0 { tmps := us ++ Array.replicate (fn.ntmps - us.size) undef, defers := [] } w := by
    have hsz : us.size = avs.length := hus.1
    refine ⟨⟨fun id o ho => ?_, fun id l hl => ?_, hr.heap.inj, hr.heap.lt⟩, fun t av ht => ?_, fun id o ho => ?_, ⟨[], rfl, List.nodup_nil, fun D hD => (by cases hD), fun D hD => ?_, fun _ => rfl⟩, by simp [Kx.callee]; omega, hr.frm⟩
    · have ho' : AL.get st0.hp id = some o := ho
      by_cases hid : id = st.nx
      · subst hid
        simp only [st0, AL.get_eq, Option.some.injEq] at ho'
        subst ho'
        exact ⟨hσ, fun t av ht => he.relV (hr.fr t av ht).2⟩
      · rw [hget id hid] at ho'
        exact (hr.heap.objs id o ho').ext he rfl rfl fun _ _ _ _ => rfl
    · obtain ⟨o, ho⟩ := hr.heap.dom id l hl
      by_cases hid : id = st.nx
      · exact ⟨_, by subst hid; simp only [sit, st0]; exact AL.get_eq _ _ _⟩
      · exact ⟨o, by simp only [sit]; rw [hget id hid]; exact ho⟩
    · have ht' : AL.get (initV 0 avs) t = some av := ht
      rw [initV_get] at ht'
      split at ht'
      · obtain ⟨u, hu, hv⟩ := hus.2 t av (by simpa using ht')
        have hlt : t < us.size := (Array.getElem?_eq_some_iff.1 hu).1
        refine ⟨by simp; omega, ?_⟩
        have : (us ++ Array.replicate (fn.ntmps - us.size) undef).getD t undef = u := by
          rw [Array.getD_eq_getD_getElem?, Array.getElem?_append_left hlt, hu]; rfl
        rw [this]
        exact he.relV hv
      · cases ht'
    · by_cases hid : id = st.nx
      · subst hid; exact Nat.lt_succ_self _
      · rw [hget id hid] at ho
        exact Nat.lt_succ_of_lt (hr.lt id o ho)
    · rcases List.mem_append.1 hD with h1 | h1
      · exact (hDs3 D h1).2.2
      · exact hDs4 D h1
  have hback : ∀ {σ' : Nat → Option Value} {st' : St} {a' : Act} {w' : World}, Rel (K.callee fn.ntmps st tm Ds) σ' st' a' w' → AL.get st'.hp st.nx = some (.kept st.fr tm) → Rel K σ' ⟨st.fr, st'.hp, st'.nx⟩ a w' := by
    intro σ' st' a' w' hr' hkept
    have hk := hr'.heap.objs st.nx _ hkept
    obtain ⟨_, _, _, _, h4, _⟩ := hr'.df
    exact ⟨hr'.heap, fun t av ht => ⟨(hr.fr t av ht).1, hk.2 t av ht⟩, hr'.lt,
      ⟨Ds, hDs1, hDs2, fun D hD => ⟨(hDs3 D hD).1, (hDs3 D hD).2.1, h4 D (List.mem_append_left _ hD)⟩, fun D hD => h4 D (List.mem_append_right _ hD), hDs5⟩, hr.nt, hr'.frm⟩
  refine calls_of_aw0 (K := K.callee fn.ntmps st tm Ds) hf hb rfl rfl hrel (h tm Ds) (fun e st' hq => hq.1) (fun e σ' st' a' w' hq hr' => ?_) (fun ps σ' st' a' w' hp hr' => ?_)
  · obtain ⟨_, av, hres, hkept, hq⟩ := hq
    obtain ⟨u, hu, hru⟩ := resV_run (K := K.callee fn.ntmps st tm Ds) hr' hres
    exact ⟨u, hu, .inl ⟨u, rfl, σ', _, av, hback hr' hkept, hru, hq⟩⟩
  · exact .inr ⟨ps, rfl, σ', _, hback hr' hp.1, hp.2⟩

theorem callF_to0 {fid : FuncId} {avs : List AV} {st : St} {Q : St → AV → Prop} {fn : Func} {c : Code} {nt : Nat} {rs : List ResultVar} (hf : K.P.funcs[fid]? = some fn) (hb : fn.body = some c) (hnt : fn.ntmps = nt) (hrs : fn.results.toList = rs) (hn : avs.length ≤ nt)
    (h : Closed st → ∀ tm Ds, AW0 (K.calleeT nt st tm Ds) c (fun e st' => (e = .normal ∨ e = .ret) ∧ ∃ av, resV K.P st' rs = some av ∧ AL.get st'.hp st.nx = some (.kept st.fr tm) ∧
      ∃ T : St, T.fr = st.fr ∧ Closed T ∧ (∀ id o, AL.get T.hp id = some o → AL.get st'.hp id = some o) ∧ There (AL.get T.hp) (refsV av) ∧ Q T av) ⟨initV 0 avs, (st.nx, .kept st.fr tm) :: st.hp, st.nx + 1⟩) : CallF K fid avs st Q := by
  intro σ a w us hr hus
  have hc := hr.closed
  have := callF_in0 (K := { K with pan := fun ps st' => ∃ T : St, T.fr = st.fr ∧ st'.fr = st.fr ∧ Closed T ∧ (∀ id o, AL.get T.hp id = some o → AL.get st'.hp id = some o) ∧ K.pan ps T })
    (Q := fun st' av => ∃ T : St, T.fr = st.fr ∧ st'.fr = st.fr ∧ Closed T ∧ (∀ id o, AL.get T.hp id = some o → AL.get st'.hp id = some o) ∧ There (AL.get T.hp) (refsV av) ∧ Q T av) hf hb hnt hrs hn
    (fun tm Ds σ a w hr hd => by
      have hr' : Rel (K.calleeT nt st tm Ds) σ _ a w := ⟨hr.heap, hr.fr, hr.lt, hr.df, hr.nt, hr.frm⟩
      refine wpIn_mono (h hc tm Ds σ a w hr' hd) fun e a' w' hp => ?_
      rcases hp with ⟨σ', st', ⟨h1, av, h2, h3, T, h4, h5, h6, h7, h8⟩, hr2⟩ | ⟨ps, he, σ', st', hr2, h3, T, ⟨h4, h5, h6⟩, h7⟩
      · exact .inl ⟨σ', st', ⟨h1, av, h2, h3, T, h4, rfl, h5, h6, h7, h8⟩, ⟨hr2.heap, hr2.fr, hr2.lt, hr2.df, hr2.nt, hr2.frm⟩⟩
      · exact .inr ⟨ps, he, σ', st', ⟨hr2.heap, hr2.fr, hr2.lt, hr2.df, hr2.nt, hr2.frm⟩, h3, T, h4, rfl, h5, h6, h7⟩) σ a w us hr.pan hus
  refine this.mono fun e w' he => ?_
  rcases he with ⟨u, he, σ', st', av, h1, h2, T, h3, h3', h4, h5, h6, h7⟩ | ⟨ps, he, σ', st', h1, T, h3, h3', h4, h5, h7⟩
  · obtain ⟨σ'', hrel, hv⟩ := rel_sub (K := K) ⟨h1.heap, h1.fr, h1.lt, h1.df, h1.nt, h1.frm⟩ (T := T) (fun t av ht => by rw [h3']; rw [h3] at ht; exact ht) h5 h4.lt h4.fr h4.obj h4.kept
    exact .inl ⟨u, he, σ'', T, av, hrel, hv av u h6 h2, h7⟩
  · obtain ⟨σ'', hrel, _⟩ := rel_sub (K := K) ⟨h1.heap, h1.fr, h1.lt, h1.df, h1.nt, h1.frm⟩ (T := T) (fun t av ht => by rw [h3']; rw [h3] at ht; exact ht) h5 h4.lt h4.fr h4.obj h4.kept
    exact .inr ⟨ps, he, σ'', T, hrel, h7⟩

end
theorem aw0_seq {P : Program} {Z : Zn} {w0 : World} {cap : Nat → Prop} {nt : Nat} {rd : Option Nat} {pan : List PanicEntry → St → Prop} {dk : List Nat} {rg : Bool} {x y : Code} {Q : Exit → St → Prop} {st : St}
    (h : AW ⟨P, Z, w0, cap, nt, rd, pan, none, dk, false⟩ x (thenA (AW0 ⟨P, Z, w0, cap, nt, rd, pan, none, dk, rg⟩ y Q) (fun _ _ => False)) st) : AW0 ⟨P, Z, w0, cap, nt, rd, pan, none, dk, rg⟩ (.seq x y) Q st := by
  intro σ a w hr hd
  have hr0 : Rel ⟨P, Z, w0, cap, nt, rd, pan, none, dk, false⟩ σ st a w := by
    obtain ⟨Ds, h1, h2, h3, h4, h5⟩ := hr.df
    exact ⟨hr.heap, hr.fr, hr.lt, ⟨[], hd, List.nodup_nil, fun D hD => (by cases hD), h4, fun _ => rfl⟩, hr.nt, hr.frm⟩
  have hup : ∀ {σ' st' a' w'}, Rel ⟨P, Z, w0, cap, nt, rd, pan, none, dk, false⟩ σ' st' a' w' → Rel ⟨P, Z, w0, cap, nt, rd, pan, none, dk, rg⟩ σ' st' a' w' ∧ a'.defers = [] := by
    intro σ' st' a' w' hr'
    obtain ⟨Ds, h1, h2, h3, h4, h5⟩ := hr'.df
    have := h5 rfl
    subst this
    exact ⟨⟨hr'.heap, hr'.fr, hr'.lt, ⟨[], h1, List.nodup_nil, fun D hD => (by cases hD), h4, fun _ => rfl⟩, hr'.nt, hr'.frm⟩, h1⟩
  refine wpIn_seq (wpIn_mono (h σ a w hr0) fun e a' w' hp => ?_)
  rcases hp with ⟨σ', st', h1, h2⟩ | ⟨ps, rfl, σ', st', h2, h3⟩
  · cases e with
    | normal => exact h1 σ' a' w' (hup h2).1 (hup h2).2
    | _ => exact h1.elim
  · exact .inr ⟨ps, rfl, σ', st', (hup h2).1, h3⟩
section
variable {K : Kx}
/-- What a cell lends: data. -/
def lendC (h : Nat → Option Obj') : AC → Option PV
  | .p x => some x
  | .nil => some (.sl [])
  | .own t n => match h t with | some (.arr _ _ rows _) => some (.sl (rows.take n)) | _ => none
  | _ => none
def lendV (i5 : Nat) (h : Nat → Option Obj') : AV → Option RV
  | .one (.box b 0) => if b = i5 then none else match h b with | some (.box cs) => (cs.mapM (lendC h)).map fun r => .one (.ptr r) | _ => none
  | .one c => (lendC h c).map .one
  | .agg cs => (cs.mapM (lendC h)).map .agg
  | _ => none
/-- What is lent lies anywhere but in the one box that is turned meanwhile. -/
theorem lendC_rel {s : Sit} (H : Heap0 s) {i5 blk5 : Nat} {cs5 : List AC} (h5 : s.h i5 = some (.box cs5)) (hσ5 : s.σ i5 = some (.pointer (some ⟨blk5, 0, none⟩))) {c : AC} {u : Value} {x : PV} (h : RelC s c u) (hx : lendC s.h c = some x) :
    RelP (fun b _ => b < s.w.heap.size ∧ b ≠ blk5) s.w x u := by
  have hsafe : ∀ b c, s.Safe b c → b ≠ blk5 := by
    rintro b c hs rfl
    obtain ⟨E, k, rows, h4, _⟩ := hs.2 i5 _ hσ5 rfl
    rw [h5] at h4; cases h4
  have hm : ∀ {y : PV}, RelP s.Safe s.w y u → RelP (fun b _ => b < s.w.heap.size ∧ b ≠ blk5) s.w y u := fun hy => hy.mono fun b c _ hz hc => ⟨⟨World.block_lt_of_cell? _ _ hc, hsafe b c hz⟩, hc⟩
  unfold lendC at hx
  split at hx
  · cases hx; exact hm h
  · cases hx; subst h; exact relP_nil none 0
  · rename_i t n
    split at hx
    · rename_i E k rows sh hh
      cases hx
      obtain ⟨E', k', rows', sh', val, xs, h1, h2, h3, h4, h5', h6, h7⟩ := own_cases H h
      rw [hh] at h1; cases h1
      rcases h7 with ⟨rfl, rfl⟩ | ⟨_, _, h7⟩
      · refine relP_take (relP_own h3 h4 (fun i row j c hi hj => ?_) fun b hb c _ => ⟨(h3.lt b hb).2, ?_⟩)
        · obtain ⟨u, hu, hr⟩ := h5' i row j c hi hj
          exact ⟨u, hu, hr.mono fun b c _ hz hc => ⟨⟨World.block_lt_of_cell? _ _ hc, hsafe b c hz⟩, hc⟩⟩
        · rintro rfl
          have := H.inj t i5 _ _ b h2 hσ5 (by rw [locBlk_own h3]; exact hb) rfl
          subst this
          rw [h5] at hh; cases hh
      · exact hm h7
    · cases hx
  · cases hx
theorem lendV_rel {s : Sit} (H : Heap0 s) {i5 blk5 : Nat} {cs5 : List AC} (h5 : s.h i5 = some (.box cs5)) (hσ5 : s.σ i5 = some (.pointer (some ⟨blk5, 0, none⟩))) {av : AV} {u : Value} {x : RV} (h : RelV s av u) (hx : lendV i5 s.h av = some x) :
    RelR (fun b _ => b < s.w.heap.size ∧ b ≠ blk5) s.w x u := by
  unfold lendV at hx
  split at hx
  · rename_i b
    split at hx
    · cases hx
    · rename_i hb5
      split at hx
      · rename_i cs hb
        obtain ⟨r, hr, rfl⟩ := Option.map_eq_some_iff.1 hx
        obtain ⟨hl, hr⟩ := mapM_get hr
        obtain ⟨cs0, blk, e1, e2, rfl⟩ := h
        rw [hb] at e1; cases e1
        obtain ⟨blk', vs, ty, e3, e4, e5⟩ := H.objs _ _ hb
        rw [e2] at e3; cases e3
        have hcell : ∀ (j : Nat) (c : PV), r[j]? = some c → ∃ x, vs[j]? = some x ∧ RelP (fun b _ => b < s.w.heap.size ∧ b ≠ blk5) s.w c x := by
          intro j c hj
          obtain ⟨ac, hac, hc⟩ := hr j c hj
          obtain ⟨x, hx, hrx⟩ := e5.2 j ac hac
          exact ⟨x, hx, lendC_rel H h5 hσ5 hrx hc⟩
        have hne : blk ≠ blk5 := by
          rintro rfl
          exact hb5 (H.inj b i5 _ _ blk e2 hσ5 rfl rfl)
        have hlt := (H.lt b _ blk e2 rfl).1
        refine .ptr r blk 0 (fun j => (vs[j]?).getD default) (fun j c hj => ?_) (fun j c hj => ⟨hlt, hne⟩) (fun j c hj => ?_)
        · obtain ⟨x, hx, _⟩ := hcell j c hj
          rw [cell_of_row s.w blk _ vs ty (0, 0) e4, Nat.zero_add, hx]; rfl
        · obtain ⟨x, hx, hrx⟩ := hcell j c hj
          rw [hx]
          exact hrx
      · cases hx
  · obtain ⟨y, hy, rfl⟩ := Option.map_eq_some_iff.1 hx
    exact lendC_rel H h5 hσ5 h hy
  · rename_i cs
    obtain ⟨r, hr, rfl⟩ := Option.map_eq_some_iff.1 hx
    obtain ⟨hl, hr⟩ := mapM_get hr
    obtain ⟨us, rfl, hs, hu⟩ := h
    refine ⟨us, rfl, by omega, fun j c hj => ?_⟩
    obtain ⟨ac, hac, hc⟩ := hr j c hj
    obtain ⟨x, hx, hrx⟩ := hu j ac hac
    exact ⟨x, hx, lendC_rel H h5 hσ5 hrx hc⟩
  · cases hx
/-- A part of the text that turns one box of plain values and looks at all else: walked with what it looks at as data. -/
theorem aw0_lend {c : Code} {Q : Exit → St → Prop} {st : St} (s5 i5 : Nat) (v5 : Value) (fr0 : List (Nat × RV)) (hdf : K.df = none) (hrg : K.rg = true) (hs5 : AL.get st.fr s5 = some (.one (.box i5 0))) (h5 : AL.get st.hp i5 = some (.box [.p (.v v5)]))
    (hf : ∀ t rv, AL.get fr0 t = some rv → t ≠ s5 ∧ ∃ av, AL.get st.fr t = some av ∧ lendV i5 (AL.get st.hp) av = some rv)
    (h : ∀ (Z : Zn) (w : World) (cap : Nat → Prop) (tm0 : Nat → Value), AW ⟨K.P, Z, w, cap, K.nt, K.rd, noPan, none, K.dk, true⟩ c (fun e st' => AL.get st'.fr s5 = some (.one (.box 0 0)) ∧ AL.get st'.hp 1 = some (.kept [(0, .one (.box 0 0))] tm0) ∧
      ∃ v, AL.get st'.hp 0 = some (.box [.p (.v v)]) ∧ Q e ⟨[(s5, .one (.box i5 0))], AL.set st.hp i5 (.box [.p (.v v)]), st.nx⟩)
      ⟨(s5, .one (.box 0 0)) :: fr0.map fun p => (p.1, avR p.2), [(1, .kept [(0, .one (.box 0 0))] tm0), (0, .box [.p (.v v5)])], 2⟩) : AW0 K c Q st := by
  intro σ a w hr hd
  have H := hr.heap
  have h5' : (sit K σ st w).h i5 = some (.box [.p (.v v5)]) := h5
  obtain ⟨blk5, vs, ty, e1, e2, e3⟩ := H.objs i5 _ h5'
  have e1' : σ i5 = some (.pointer (some ⟨blk5, 0, none⟩)) := e1
  have hlt5 := H.lt i5 _ blk5 e1 rfl
  let tm0 : Nat → Value := fun _ => .pointer (some ⟨blk5, 0, none⟩)
  let Z' : Zn := fun b _ => b < w.heap.size ∧ b ≠ blk5
  let K' : Kx := ⟨K.P, Z', w, fun b => b = blk5, K.nt, K.rd, noPan, none, K.dk, true⟩
  let σ' : Nat → Option Value := fun id => if id = 0 then some (.pointer (some ⟨blk5, 0, none⟩)) else none
  let st0 : St := ⟨(s5, .one (.box 0 0)) :: fr0.map fun p => (p.1, avR p.2), [(1, .kept [(0, .one (.box 0 0))] tm0), (0, .box [.p (.v v5)])], 2⟩
  have hsf : ∀ b c, Z' b c → (sit K' σ' st0 w).Safe b c := by
    rintro b c ⟨hb1, hb2⟩
    refine ⟨.inl ⟨hb1, hb2⟩, fun id l hl hb => ?_⟩
    have hl' : (if id = 0 then some (Value.pointer (some ⟨blk5, 0, none⟩)) else none) = some l := hl
    split at hl'
    · cases hl'
      simp [locBlk] at hb
      exact absurd hb.symm hb2
    · cases hl'
  have hbox0 : RelV (sit K' σ' st0 w) (.one (.box 0 0)) (.pointer (some ⟨blk5, 0, none⟩)) := ⟨[.p (.v v5)], blk5, rfl, rfl, rfl⟩
  have hrel : Rel K' σ' st0 a w := by
    refine ⟨⟨fun id o ho => ?_, fun id l hl => ?_, fun i i' l l' b hi hi' _ _ => ?_, fun id l b hl hb => ?_⟩, fun t av ht => ?_, fun id o ho => ?_, ?_, hr.nt, Frm.refl _ _⟩
    · have ho' : AL.get st0.hp id = some o := ho
      by_cases h1 : id = 1
      · subst h1
        simp only [st0, AL.get_eq, Option.some.injEq] at ho'
        subst ho'
        refine ⟨rfl, fun t av ht => ?_⟩
        by_cases h0 : t = 0
        · subst h0; rw [AL.get_eq] at ht; cases ht; exact hbox0
        · rw [AL.get_ne _ _ h0] at ht; cases ht
      · by_cases h0 : id = 0
        · subst h0
          simp only [st0] at ho'
          rw [AL.get_ne _ _ (by decide), AL.get_eq] at ho'
          cases ho'
          refine ⟨blk5, vs, ty, rfl, e2, e3.1, fun j c hj => ?_⟩
          obtain ⟨x, hx, hrx⟩ := e3.2 j c hj
          refine ⟨x, hx, ?_⟩
          rcases j with _ | j
          · simp at hj; subst hj
            have hrx' : RelP _ _ (.v v5) x := hrx
            cases hrx' with
            | v _ h => exact .v _ h
          · simp at hj
        · simp only [st0] at ho'
          rw [AL.get_ne _ _ h1, AL.get_ne _ _ h0] at ho'; cases ho'
    · have hl' : (if id = 0 then some (Value.pointer (some ⟨blk5, 0, none⟩)) else none) = some l := hl
      split at hl'
      · rename_i h0; subst h0; exact ⟨_, rfl⟩
      · cases hl'
    · have hi1 : (if i = 0 then some (Value.pointer (some ⟨blk5, 0, none⟩)) else none) = some l := hi
      have hi2 : (if i' = 0 then some (Value.pointer (some ⟨blk5, 0, none⟩)) else none) = some l' := hi'
      split at hi1
      · split at hi2
        · omega
        · cases hi2
      · cases hi1
    · have hl' : (if id = 0 then some (Value.pointer (some ⟨blk5, 0, none⟩)) else none) = some l := hl
      split at hl'
      · cases hl'
        simp [locBlk] at hb; subst hb
        exact ⟨hlt5.1, .inr rfl⟩
      · cases hl'
    · have ht' : AL.get st0.fr t = some av := ht
      by_cases hts : t = s5
      · subst hts
        simp only [st0, AL.get_eq, Option.some.injEq] at ht'
        subst ht'
        obtain ⟨g1, cs, blk, g2, g3, g4⟩ := hr.fr t _ hs5
        have g3' : σ i5 = some (.pointer (some ⟨blk, 0, none⟩)) := g3
        rw [e1'] at g3'; cases g3'
        exact ⟨g1, by rw [g4]; exact hbox0⟩
      · simp only [st0] at ht'
        rw [AL.get_ne _ _ hts] at ht'
        have key : ∀ (l : List (Nat × RV)), AL.get (l.map fun p => (p.1, avR p.2)) t = (AL.get l t).map avR := by
          intro l
          induction l with
          | nil => rfl
          | cons p l ih =>
            obtain ⟨t', rv⟩ := p
            by_cases hh : t = t'
            · subst hh; simp only [List.map_cons, AL.get_eq, Option.map_some]
            · simp only [List.map_cons, AL.get_ne _ _ hh]; exact ih
        rw [key] at ht'
        obtain ⟨rv, hrv, rfl⟩ := Option.map_eq_some_iff.1 ht'
        obtain ⟨_, av0, g1, g2⟩ := hf t rv hrv
        obtain ⟨g3, g4⟩ := hr.fr t _ g1
        refine ⟨g3, avR_rel ?_⟩
        exact (lendV_rel (s := sit K σ st w) H h5' e1' g4 g2).mono fun b c u hz hc => ⟨hsf b c hz, hc⟩
    · have ho' : AL.get st0.hp id = some o := ho
      show id < 2
      by_cases h1 : id = 1
      · omega
      · by_cases h0 : id = 0
        · omega
        · simp only [st0] at ho'
          rw [AL.get_ne _ _ h1, AL.get_ne _ _ h0] at ho'; cases ho'
    · obtain ⟨Ds, _, _, _, h4, _⟩ := hr.df
      exact ⟨[], hd, List.nodup_nil, fun D hD => (by cases hD), h4, fun _ => rfl⟩
  have hF : K'.F = K.F := rfl
  have hh := h Z' w (fun b => b = blk5) tm0 σ' a w hrel
  refine wpIn_mono hh fun e a' w' hp => ?_
  rcases hp with ⟨σ2, st2, ⟨q1, q2, v, q3, q4⟩, hr2⟩ | ⟨ps, rfl, _, _, _, hp⟩
  rotate_left
  · exact hp.elim
  refine .inl ⟨Pv.upd σ i5 (.pointer (some ⟨blk5, 0, none⟩)), _, q4, ?_⟩
  have hfm := hr2.frm
  have hblk : ∀ k, k < w.heap.size → k ≠ blk5 → w'.heap[k]? = w.heap[k]? := fun k h1 h2 => hfm.block k h1 h2
  obtain ⟨_, hkp⟩ := hr2.heap.objs 1 _ q2
  obtain ⟨cs', blk', g1, g2, g3⟩ := hkp 0 _ (AL.get_eq _ _ _)
  have g3' : blk' = blk5 := by
    have : (Value.pointer (some ⟨blk5, 0, none⟩)) = .pointer (some ⟨blk', 0, none⟩) := g3
    cases this; rfl
  subst g3'
  have g2' : σ2 0 = some (.pointer (some ⟨blk', 0, none⟩)) := g2
  obtain ⟨blk2, vs2, ty2, m1, m2, m3⟩ := hr2.heap.objs 0 _ q3
  have m1' : σ2 0 = some (.pointer (some ⟨blk2, 0, none⟩)) := m1
  rw [g2'] at m1'; cases m1'
  have hT : Turn (sit K σ st w) i5 (.box [.p (.v v)]) (.pointer (some ⟨blk', 0, none⟩)) w' :=
    ⟨fun k hk hne => hblk k hk (fun e => hne _ e1 (by rw [e]; rfl)), hfm.size, fun b hb' => by
      simp [locBlk] at hb'; subst hb'; exact ⟨Nat.lt_of_lt_of_le hlt5.1 hfm.size, hlt5.2, .inl ⟨_, e1, rfl⟩⟩, fun _ _ _ _ _ _ _ h => by rw [h5'] at h; cases h⟩
  have he : Ext (sit K σ st w) ((sit K σ st w).put i5 (.box [.p (.v v)]) (.pointer (some ⟨blk', 0, none⟩)) w') :=
    hT.ext (fun _ l _ h2 => ⟨Option.some.inj (e1.symm.trans h2), _, rfl⟩) (fun _ _ _ _ _ h _ => by rw [h5'] at h; cases h) (fun _ _ _ _ h _ => by rw [h5'] at h; cases h) (fun _ _ _ h _ => by rw [h5'] at h; cases h) (fun _ _ _ h _ => by rw [h5'] at h; cases h)
  have hput : Put (sit K σ st w) i5 (.box [.p (.v v)]) (.pointer (some ⟨blk', 0, none⟩)) w' := by
    refine ⟨hT.heap H he ⟨blk', vs2, ty2, by simp [Sit.put, upd_same], m2, m3.1, fun j c hj => ?_⟩, he, fun k hk hne => hblk k hk (fun e => hne _ e1 (by rw [e]; rfl)), hfm.size, hfm.os, hfm.tape, hfm.output⟩
    obtain ⟨x, hx, hrx⟩ := m3.2 j c hj
    refine ⟨x, hx, ?_⟩
    rcases j with _ | j
    · simp at hj; subst hj
      have hrx' : RelP _ _ (.v v) x := hrx
      cases hrx' with
      | v _ h => exact .v _ h
    · simp at hj
  have hu := hr.upd hput
  have hup : st.upd (some (i5, .box [.p (.v v)])) = ⟨st.fr, AL.set st.hp i5 (.box [.p (.v v)]), st.nx⟩ := by
    have := hr.lt i5 _ h5
    simp [St.upd, this]
  rw [hup] at hu
  refine ⟨hu.heap, fun t av ht => ?_, hu.lt, ?_, hr2.nt, hu.frm⟩
  · by_cases hts : t = s5
    · subst hts
      have ht' : AL.get [(t, AV.one (.box i5 0))] t = some av := ht
      rw [AL.get_eq] at ht'; cases ht'
      obtain ⟨n1, cs3, blk3, n2, n3, n4⟩ := hr2.fr t _ q1
      have n3' : σ2 0 = some (.pointer (some ⟨blk3, 0, none⟩)) := n3
      rw [g2'] at n3'; cases n3'
      exact ⟨n1, [.p (.v v)], blk', by simp [sit, AL.get_set], by simp [sit, upd_same], n4⟩
    · have ht' : AL.get [(s5, AV.one (.box i5 0))] t = some av := ht
      rw [AL.get_ne _ _ hts] at ht'; cases ht'
  · obtain ⟨Ds, k1, k2, k3, k4, k5⟩ := hr2.df
    refine ⟨Ds, ?_, k2, fun D hD => ⟨Nat.le_trans hr.frm.size (k3 D hD).1, (k3 D hD).2⟩, k4, fun e => by rw [hrg] at e; cases e⟩
    rw [k1]
    unfold dfL
    rw [hdf]
end
end Go.Pv
