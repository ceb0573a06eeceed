/- 'copy' of rows of whatever element size into a row that is known whole. -/
import Derived.Test.YtojbkpnkcpcioaaBaseE
import Derived.Laws.CopyOwn
set_option linter.all false
namespace Go.Sh
open Go Go.RowKit
variable {P : Program}

/-- An operation of a region that makes memory. -/
theorem rg_make_wide {R : World → World → Prop} {V : Value → World → Prop} {o : Oper} {a : Act} {w w' : World} {N : Nat} {Qx : Exit → Act → World → Prop} (v : Value)
    (hrun : (execOp a.eval o).run P w = .ok (.value v) w') (hdst : o.dst = none → v = undef) (hV : V v w') (hR : R w w') : o.wpIn Fence.wide N P a w (RgK R V o a w) Qx :=
  Oper.wpIn_of_wp (by unfold Oper.wp; rw [hrun]; exact ⟨v, hdst, rfl, hV, hR⟩)

theorem run_copy_rowN (w : World) (dT sT ty elem : TypeId) (g o dLen dCap : Nat) (a : Addr) (sLen sCap size : Nat) (cur : Array Value) (t : TypeId) (cs : List Value)
    (hu : P.underlying dT = some (.slice elem)) (hs : (P.info? elem).map (·.size) = some size)
    (hg : w.heap[g]? = some (.cells cur t (0, 0))) (hn : cs.length = Nat.min sLen dLen * size)
    (hsrc : ∀ j v, cs[j]? = some v → w.cell? (a.add j) = some v) (hfit : o + cs.length ≤ cur.size) (h1 : ∀ v ∈ cs, v.oneCell' = true) :
    (Builtin.copy_ #[dT, sT] ty #[.slice (some ⟨g, o, none⟩) dLen dCap, .slice (some a) sLen sCap]).run P w =
      .ok (goInt (Nat.min sLen dLen)) (w.setRow g (cur.toList.take o ++ cs ++ cur.toList.drop (o + cs.length)).toArray) := by
  have hl := run_loadCells_list (P := P) w a cs hsrc
  have hst := run_storeCells_at P g o t cs 0 cur w hg (by simpa using hfit) h1
  cases hq : P.info? elem with
  | none => simp [hq] at hs
  | some i =>
    have hi : i.size = size := by simpa [hq] using hs
    simp [Builtin.copy_, run_underlying hu, Builtin.lenOf, Builtin.firstCells, sizeOf, typeInfo, hq, hi, ← hn, hl, hst]

theorem run_copy_noneN (w : World) (dT sT ty elem : TypeId) (d a : Option Addr) (dCap sCap size : Nat) (hu : P.underlying dT = some (.slice elem)) (hs : (P.info? elem).map (·.size) = some size) :
    (Builtin.copy_ #[dT, sT] ty #[.slice d 0 dCap, .slice a 0 sCap]).run P w = .ok (goInt 0) w := by
  cases hq : P.info? elem with
  | none => simp [hq] at hs
  | some i =>
    have hl : ∀ (x : Addr), (loadCells x 0).run P w = .ok #[] w := fun x => by simpa using run_loadCells_list (P := P) w x [] (by simp)
    cases d <;> cases a <;> simp [Builtin.copy_, run_underlying hu, Builtin.lenOf, Builtin.firstCells, sizeOf, typeInfo, hq, storeCells, hl]

theorem wpList_copy_rows {α : Type} {enc : α → List Value} {size : Nat} (he : ∀ x, (enc x).length = size) (hone : ∀ x, ∀ v ∈ enc x, v.oneCell' = true) (hpos : 0 < size)
    {w : World} {ops : Array Oper} {rest : List Oper} {o : Oper} {a : Act} {Q : Exit → Act → World → Prop} (hgd : o.guard = none) (d s : Operand) (dT sT : TypeId)
    (ho : o.op = .call { callee := .builtin .copy, args := #[d, s], argTypes := #[dT, sT] }) (elem : TypeId) (hu : P.underlying dT = some (.slice elem)) (hsz : (P.info? elem).map (·.size) = some size)
    (g : Nat) (sv : Value) (l : List α) (hd : a.eval d = .slice (some ⟨g, 0, none⟩) l.length l.length) (hs : a.eval s = sv) (hr : RowsAt enc size w w.heap.size sv l)
    (cur : Array Value) (t : TypeId) (hg : w.heap[g]? = some (.cells cur t (0, 0))) (hcur : cur.size = l.length * size) (B : Nat) (w0 : World) (hb : Below B w0 w) (hBg : B ≤ g)
    (h : ∀ w', RowsAt enc size w' w'.heap.size (.slice (some ⟨g, 0, none⟩) l.length l.length) l → Below B w0 w' → wpList P ops Q rest (a.put o.dst (goInt l.length)) w') :
    wpList P ops Q (o :: rest) a w := by
  obtain ⟨ao, cap, rfl, hlen, hrow⟩ := hr
  refine wpList_plain hgd fun K hK => ?_
  by_cases hl : l = []
  · subst hl
    have hrun := run_copy_noneN (P := P) w dT sT o.type elem (some ⟨g, 0, none⟩) ao 0 cap size hu hsz
    unfold Oper.wp
    simp only [List.length_nil] at hd hs
    simp [execOp, ho, resolve, invoke, builtin, hd, hs, hrun, Result.andThen]
    exact hK _ _ (by simpa using h w ⟨_, _, rfl, by simp, fun h => absurd rfl h⟩ hb)
  · obtain ⟨b, off, rfl, hbl, hx⟩ := hrow hl
    have hfl := flatten_length enc size he l
    have hsrc : ∀ j v, ((l.map enc).flatten)[j]? = some v → w.cell? ((⟨b, off, none⟩ : Addr).add j) = some v := by
      intro j v hj
      have hjl : j < l.length * size := by have := (List.getElem?_eq_some_iff.1 hj).1; rwa [hfl] at this
      have hq : j / size < l.length := Nat.div_lt_of_lt_mul (by rwa [Nat.mul_comm] at hjl)
      have hm : j % size < size := Nat.mod_lt _ hpos
      have hm2 : j % size < (enc l[j / size]).length := by rw [he]; exact hm
      have h2 : (enc l[j / size])[j % size]? = some (enc l[j / size])[j % size] := List.getElem?_eq_getElem hm2
      have h3 := flatten_get enc size he l (j / size) l[j / size] (List.getElem?_eq_getElem hq) (j % size) _ h2
      have h4 := hx (j / size) l[j / size] (List.getElem?_eq_getElem hq) (j % size) _ h2
      have h5 : j / size * size + j % size = j := by rw [Nat.mul_comm]; exact Nat.div_add_mod j size
      rw [h5] at h3
      rw [hj] at h3
      cases h3
      rw [show off + j / size * size + j % size = off + j by omega] at h4
      rw [Addr.add_lit]; exact h4
    have hones : ∀ v ∈ (l.map enc).flatten, v.oneCell' = true := by
      intro v hv
      obtain ⟨x, hx, hvx⟩ := List.mem_flatten.1 hv
      obtain ⟨y, _, rfl⟩ := List.mem_map.1 hx
      exact hone y v hvx
    have hmin : Nat.min l.length l.length = l.length := Nat.min_self _
    have hrun := run_copy_rowN (P := P) w dT sT o.type elem g 0 l.length l.length ⟨b, off, none⟩ l.length cap size cur t ((l.map enc).flatten) hu hsz hg (by rw [hmin]; exact hfl) hsrc (by rw [hfl, hcur]; omega) hones
    rw [hmin] at hrun
    obtain ⟨NL, hNL⟩ : ∃ x, cur.toList.take 0 ++ (l.map enc).flatten ++ cur.toList.drop (0 + ((l.map enc).flatten).length) = x := ⟨_, rfl⟩
    rw [hNL] at hrun
    have hgl := (Array.getElem?_eq_some_iff.1 hg).1
    have hnew := setRow_heap w g cur NL.toArray t _ hg
    have hfin := h (w.setRow g NL.toArray) ?_ (below_setRow hb hBg _)
    · unfold Oper.wp
      simp [execOp, ho, resolve, invoke, builtin, hd, hs, hrun, Result.andThen]
      exact hK _ _ hfin
    · refine ⟨_, _, rfl, hlen, fun _ => ⟨g, 0, rfl, by simpa [World.setRow] using hgl, fun i x hi j u hju => ?_⟩⟩
      have h3 := flatten_get enc size he l i x hi j u hju
      have h4 : NL[i * size + j]? = some u := by
        rw [← hNL, List.take_zero, List.nil_append, List.getElem?_append_left (List.getElem?_eq_some_iff.1 h3).1]; exact h3
      unfold World.cell?
      simp only [hnew]
      simpa using h4
end Go.Sh
