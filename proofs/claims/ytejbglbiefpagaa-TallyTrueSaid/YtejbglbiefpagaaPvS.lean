/- Slice expressions on data. -/
import Derived.Test.YtejbglbiefpagaaKd
import Derived.Laws.Slices
set_option linter.all false
namespace Go.Pv
open Go Go.RowKit Go.Sh
variable {K : Kx}
theorem callS_slice {st : St} {o : Oper} {Q : St → Prop} {T E : TypeId} {x lo hi : Operand} (hd : dstOK K o.dst = true) (ho : o.op = .slice T x (some lo) (some hi) none) {k : Nat} (hT : sliceElem K.P T = some E) (hE : tySize K.P E = some k)
    {rows : List (List PV)} (hx : evalA (AL.get st.fr) x = some (.one (.p (.sl rows)))) (hk : rowsK k rows) {l h : Nat} {kl kh : IntKind} (h1 : plain1 (AL.get st.fr) lo = some (.int kl (l : Int))) (h2 : plain1 (AL.get st.fr) hi = some (.int kh (h : Int))) (hlh : l ≤ h) (hhn : h ≤ rows.length)
    (hQ : Q (st.put o.dst (.one (.p (.sl ((rows.take h).drop l)))))) : CallS K st o Q := by
  intro σ a w hr
  refine wpIn_of (by rw [ho]; intro c hc; cases hc) ?_
  simp only [plain1, Option.bind_eq_some_iff] at h1 h2
  obtain ⟨al, hal, hpl⟩ := h1
  obtain ⟨ah, hah, hph⟩ := h2
  have e1 := plainOf_rel (hr.evF lo al hal) hpl
  have e2 := plainOf_rel (hr.evF hi ah hah) hph
  have hv : RelP (sit K σ st w).Safe w (.sl rows) (a.eval x) := hr.evF x _ hx
  have hu := underlying_slice hT
  generalize hg : a.eval x = u at hv
  cases hv with
  | sl _ k' ao cap b off us hm hk' hao hc hz hrr =>
    have hel : K.P.underlying T = some (.slice (K.P.elem T)) := by
      rw [hu]; unfold Program.elem; rw [hu]
    have hsz := run_sizeOf' (P := K.P) hE w
    have hE' : K.P.elem T = E := by unfold Program.elem; rw [hu]
    have hrun : (execOp a.eval o).run K.P w = .ok (.value (sliced ao l h cap k)) w := by
      have := run_slice_lh (P := K.P) w T ao rows.length cap hel kl kh (l : Int) (h : Int) (by omega) (by omega) (by omega)
      rw [hE', hsz] at this
      simp only [Result.andThen, Int.toNat_natCast] at this
      have h3 := run_sliceAt_slice (P := K.P) w T (.slice ao rows.length cap) (some (.int kl (l : Int))) (some (.int kh (h : Int))) none hel
      rw [this] at h3
      simp only [execOp, ho, hg, Option.map_some, Option.map_none, e1, e2, Sem.run_bind, h3, Result.andThen]
      first | rfl | simp
    rw [hrun, Oper.uponIn_value]
    refine ⟨σ, _, hr.put hd ?_, hQ⟩
    have hlen : ((rows.take h).drop l).length = h - l := by rw [List.length_drop, List.length_take]; omega
    have hget : ∀ (i : Nat) (row : List PV), ((rows.take h).drop l)[i]? = some row → rows[i + l]? = some row ∧ i < h - l := by
      intro i row hi
      have hi' := (List.getElem?_eq_some_iff.1 hi).1
      rw [List.getElem?_drop, List.getElem?_take] at hi
      rw [hlen] at hi'
      rw [if_pos (by omega), Nat.add_comm] at hi
      exact ⟨hi, hi'⟩
    show RelP (sit K σ st w).Safe w (.sl ((rows.take h).drop l)) (sliced ao l h cap k)
    have hkk : ∀ (i : Nat) (row : List PV), rows[i]? = some row → k' = k := fun i row hi => by rw [← hk' i row hi, hk i row hi]
    have := RelP.sl (Z := (sit K σ st w).Safe) (w := w) ((rows.take h).drop l) k (if cap = l then ao else ao.map (·.add (l * k))) (cap - l) b (off + l * k) (fun i j => us (i + l) j)
      (by rw [hlen]; omega)
      (fun i row hi => hk _ _ (hget i row hi).1)
      (fun hne => by
        have h0 : 0 < h - l := by rw [← hlen]; exact List.length_pos_iff.2 hne
        rw [if_neg (by omega), hao (by intro hn; rw [hn] at hhn; simp at hhn; omega)]
        simp only [Option.map_some, Addr.add]
        first | rfl | (split <;> simp_all))
      (fun i row j c hi hj => by
        have hg := hget i row hi
        have := hc (i + l) row j c hg.1 hj
        rw [hkk _ _ hg.1, Nat.add_mul] at this
        rw [show off + l * k + i * k + j = off + (i * k + l * k) + j by omega]
        exact this)
      (fun i row j c hi hj => by
        have hg := hget i row hi
        have := hz (i + l) row j c hg.1 hj
        rw [hkk _ _ hg.1, Nat.add_mul] at this
        rw [show off + l * k + i * k + j = off + (i * k + l * k) + j by omega]
        exact this)
      (fun i row j c hi hj => hrr (i + l) row j c (hget i row hi).1 hj)
    unfold sliced
    rw [hlen] at this
    exact this
end Go.Pv
