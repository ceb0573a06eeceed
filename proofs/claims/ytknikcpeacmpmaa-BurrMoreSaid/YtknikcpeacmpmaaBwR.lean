/- Bales among a law's arguments, as data. -/
import Derived.Test.YtknikcpeacmpmaaBvF
import Derived.Test.YtknikcpeacmpmaaRows
set_option linter.all false
namespace Go.Proofs.Ytknikcpeacmpmaa
open Go Go.RowKit Go.Sh Go.Pv Go.ChangeShapes Go.WideShapes
set_option linter.constructorNameAsVariable false
theorem tyI {k : IntKind} {x : PV} (h : Ty (.int k) x) : ∃ n, x = .v (.int k n) ∧ (Lit.int k n).wf = true := by
  cases h with
  | int _ n h => exact ⟨n, rfl, h⟩
theorem tyS {ks : List CK} {x : PV} (h : Ty (.sl ks) x) : ∃ rows, x = .sl rows ∧ (∀ r ∈ rows, r.length = ks.length) ∧ ∀ r ∈ rows, ∀ (j : Nat) (c : CK) (x : PV), ks[j]? = some c → r[j]? = some x → Ty c x := by
  cases h with
  | sl _ rows h1 h2 => exact ⟨rows, rfl, h1, h2⟩
theorem tyB {x : PV} (h : Ty .bool x) : ∃ b, x = .v (.bool b) := by
  cases h with
  | bool b => exact ⟨b, rfl⟩
abbrev ckI : CK := .int .i64
theorem map_of {α : Type} {row : α → List PV} : ∀ (rows : List (List PV)), (∀ r ∈ rows, ∃ x, r = row x) → ∃ l : List α, rows = l.map row
  | [], _ => ⟨[], rfl⟩
  | r :: rs, h => by
    obtain ⟨x, hx⟩ := h r (List.mem_cons_self ..)
    obtain ⟨l, hl⟩ := map_of rs fun r hr => h r (List.mem_cons_of_mem _ hr)
    exact ⟨x :: l, by rw [hx, hl]; rfl⟩
theorem tyS2 {x : PV} (h : Ty (.sl [ckI, ckI]) x) : ∃ l : List (Int × Int), x = .sl (l.map row2) := by
  obtain ⟨rows, rfl, h1, h2⟩ := tyS h
  obtain ⟨l, hl⟩ := map_of (row := row2) rows fun r hr => by
    have hl := h1 r hr
    match r, hl with
    | [a, b], _ =>
      obtain ⟨n, rfl, _⟩ := tyI (h2 _ hr 0 _ _ rfl rfl)
      obtain ⟨m, rfl, _⟩ := tyI (h2 _ hr 1 _ _ rfl rfl)
      exact ⟨(n, m), rfl⟩
  exact ⟨l, by rw [hl]⟩
theorem tySB {x : PV} (h : Ty (.sl [ckI, .bool]) x) : ∃ l : List (Int × Bool), x = .sl (l.map rowB) := by
  obtain ⟨rows, rfl, h1, h2⟩ := tyS h
  obtain ⟨l, hl⟩ := map_of (row := rowB) rows fun r hr => by
    have hl := h1 r hr
    match r, hl with
    | [a, b], _ =>
      obtain ⟨n, rfl, _⟩ := tyI (h2 _ hr 0 _ _ rfl rfl)
      obtain ⟨m, rfl⟩ := tyB (h2 _ hr 1 _ _ rfl rfl)
      exact ⟨(n, m), rfl⟩
  exact ⟨l, by rw [hl]⟩
theorem kinds27 : kindsOf Try.prog 8 27 = some [ckI, ckI, ckI, .sl [ckI, ckI], ckI, .sl [ckI, .bool]] := by kernel_rfl
theorem cells_agg {H : Type} {enc : TypeId × Value → H} {W : World} {sp : Nat → Bool} {t : TypeId} {ks : List CK} {cs : Array Value} {d : DataW H} {p : List MemPlace} (hk : kindsOf Try.prog 8 t = some ks) (h : DataW.Trod enc Try.prog W 0 sp true t (.agg cs) d p) : ∃ ps, ps.length = ks.length ∧ RelR (fun _ _ => True) W (.agg ps) (.agg cs) ∧ ∀ (j : Nat) (k : CK), ks[j]? = some k → ∃ x, ps[j]? = some x ∧ Ty k x := by
  obtain ⟨fuel, h⟩ := h
  obtain ⟨ps, h1, h2, h3⟩ := trod_open 8 t ks fuel _ _ hk h
  have h1' : cs.size = ks.length := by simpa [Value.cells] using h1
  refine ⟨ps, h2, ⟨cs, rfl, by omega, fun j c hj => ?_⟩, fun j k hj => ?_⟩
  · have hjl : j < ks.length := by
      have := (List.getElem?_eq_some_iff.1 hj).1
      omega
    obtain ⟨c', x, hc, hx, _, hr⟩ := h3 j _ (List.getElem?_eq_getElem hjl)
    rw [hx] at hj; cases hj
    exact ⟨c', by simpa [Value.cells] using hc, hr⟩
  · obtain ⟨c', x, hc, hx, ht, _⟩ := h3 j k hj
    exact ⟨x, hx, ht⟩
theorem burr_open {H : Type} {enc : TypeId × Value → H} {W : World} {sp : Nat → Bool} {cs : Array Value} {d : DataW H} {p : List MemPlace} (h : DataW.Trod enc Try.prog W 0 sp true 27 (.agg cs) d p) :
    ∃ n lo hi top bales tests, RelR (fun _ _ => True) W (buR n lo hi top bales tests) (.agg cs) := by
  obtain ⟨ps, hl, hr, ht⟩ := cells_agg kinds27 h
  obtain ⟨x0, e0, t0⟩ := ht 0 _ rfl
  obtain ⟨x1, e1, t1⟩ := ht 1 _ rfl
  obtain ⟨x2, e2, t2⟩ := ht 2 _ rfl
  obtain ⟨x3, e3, t3⟩ := ht 3 _ rfl
  obtain ⟨x4, e4, t4⟩ := ht 4 _ rfl
  obtain ⟨x5, e5, t5⟩ := ht 5 _ rfl
  obtain ⟨a0, rfl, _⟩ := tyI t0
  obtain ⟨a1, rfl, _⟩ := tyI t1
  obtain ⟨a2, rfl, _⟩ := tyI t2
  obtain ⟨l3, rfl⟩ := tyS2 t3
  obtain ⟨a4, rfl, _⟩ := tyI t4
  obtain ⟨l5, rfl⟩ := tySB t5
  refine ⟨a0, a1, a2, a4, l3, l5, ?_⟩
  have : ps = [iP a0, iP a1, iP a2, .sl (l3.map row2), iP a4, .sl (l5.map rowB)] := by
    apply List.ext_getElem?
    intro j
    rcases j with _ | _ | _ | _ | _ | _ | j
    · exact e0
    · exact e1
    · exact e2
    · exact e3
    · exact e4
    · exact e5
    · rw [List.getElem?_eq_none (by rw [hl]; simp), List.getElem?_eq_none (by simp)]
  rw [this] at hr
  exact hr
theorem agg_of {W : World} {b : Nat} {t : TypeId} {fs : Array Field} {v : Value} (hu : Try.prog.underlying t = some (.struct fs)) (h : Value.okWide Try.prog W .any b t v) : ∃ cs, v = .agg cs := by
  unfold Value.okWide at h
  rw [hu] at h
  obtain ⟨cs, e, _⟩ := h
  exact ⟨cs, e⟩
theorem own : ownKnob Try.prog.godebug = none := by kernel_rfl
theorem laidOut : laidOutB Try.prog = true := by kernel_rfl
end Go.Proofs.Ytknikcpeacmpmaa
