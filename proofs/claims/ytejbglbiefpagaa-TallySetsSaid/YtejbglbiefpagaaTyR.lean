/- A tally among a law's arguments, as data. -/
import Derived.Test.YtejbglbiefpagaaTvA
import Derived.Test.YtejbglbiefpagaaRows
set_option linter.all false
namespace Go.Proofs.Ytejbglbiefpagaa
open Go Go.RowKit Go.Sh Go.Pv Go.ChangeShapes Go.WideShapes
set_option linter.constructorNameAsVariable false
theorem tyI {k : IntKind} {x : PV} (h : Ty (.int k) x) : ∃ n, x = .v (.int k n) ∧ (Lit.int k n).wf = true := by
  cases h with
  | int _ n h => exact ⟨n, rfl, h⟩
theorem tyS {ks : List CK} {x : PV} (h : Ty (.sl ks) x) : ∃ rows, x = .sl rows ∧ (∀ r ∈ rows, r.length = ks.length) ∧ ∀ r ∈ rows, ∀ (j : Nat) (c : CK) (x : PV), ks[j]? = some c → r[j]? = some x → Ty c x := by
  cases h with
  | sl _ rows h1 h2 => exact ⟨rows, rfl, h1, h2⟩
abbrev ckI : CK := .int .i64
theorem map_of {α : Type} {row : α → List PV} : ∀ (rows : List (List PV)), (∀ r ∈ rows, ∃ x, r = row x) → ∃ l : List α, rows = l.map row
  | [], _ => ⟨[], rfl⟩
  | r :: rs, h => by
    obtain ⟨x, hx⟩ := h r (List.mem_cons_self ..)
    obtain ⟨l, hl⟩ := map_of rs fun r hr => h r (List.mem_cons_of_mem _ hr)
    exact ⟨x :: l, by rw [hx, hl]; rfl⟩
theorem tyS1 {x : PV} (h : Ty (.sl [ckI]) x) : ∃ l : List Int, x = .sl (l.map row1) := by
  obtain ⟨rows, rfl, h1, h2⟩ := tyS h
  obtain ⟨l, hl⟩ := map_of (row := row1) rows fun r hr => by
    have hl := h1 r hr
    match r, hl with
    | [a], _ =>
      obtain ⟨n, rfl, _⟩ := tyI (h2 _ hr 0 _ _ rfl rfl)
      exact ⟨n, rfl⟩
  exact ⟨l, by rw [hl]⟩
theorem tyS2 {x : PV} (h : Ty (.sl [ckI, ckI]) x) : ∃ l : List (Int × Int), x = .sl (l.map row2) := by
  obtain ⟨rows, rfl, h1, h2⟩ := tyS h
  obtain ⟨l, hl⟩ := map_of (row := row2) rows fun r hr => by
    have hl := h1 r hr
    match r, hl with
    | [a, b], _ =>
      obtain ⟨n, rfl, _⟩ := tyI (h2 _ hr 0 _ _ rfl rfl)
      obtain ⟨m, rfl, _⟩ := tyI (h2 _ hr 1 _ _ rfl rfl)
      exact ⟨(n, m), rfl⟩
  exact ⟨l, by rw [hl]⟩
theorem tyS4 {x : PV} (h : Ty (.sl [ckI, ckI, ckI, ckI]) x) : ∃ l : List (Int × Int × Int × Int), x = .sl (l.map row4) := by
  obtain ⟨rows, rfl, h1, h2⟩ := tyS h
  obtain ⟨l, hl⟩ := map_of (row := row4) rows fun r hr => by
    have hl := h1 r hr
    match r, hl with
    | [a, b, c, d], _ =>
      obtain ⟨n, rfl, _⟩ := tyI (h2 _ hr 0 _ _ rfl rfl)
      obtain ⟨m, rfl, _⟩ := tyI (h2 _ hr 1 _ _ rfl rfl)
      obtain ⟨k, rfl, _⟩ := tyI (h2 _ hr 2 _ _ rfl rfl)
      obtain ⟨e, rfl, _⟩ := tyI (h2 _ hr 3 _ _ rfl rfl)
      exact ⟨(n, m, k, e), rfl⟩
  exact ⟨l, by rw [hl]⟩
theorem kinds25 : kindsOf Try.prog 8 25 = some [ckI, ckI, .sl [ckI, ckI], .sl [ckI, ckI, ckI, ckI]] := by kernel_rfl
theorem kinds29 : kindsOf Try.prog 8 29 = some [ckI, ckI, ckI, ckI] := by kernel_rfl
theorem cells_agg {H : Type} {enc : TypeId × Value → H} {W : World} {sp : Nat → Bool} {t : TypeId} {ks : List CK} {cs : Array Value} {d : DataW H} {p : List MemPlace} (hk : kindsOf Try.prog 8 t = some ks) (h : DataW.Trod enc Try.prog W 0 sp true t (.agg cs) d p) : ∃ ps, ps.length = ks.length ∧ RelR (fun _ _ => True) W (.agg ps) (.agg cs) ∧ ∀ (j : Nat) (k : CK), ks[j]? = some k → ∃ x, ps[j]? = some x ∧ Ty k x := by
  obtain ⟨fuel, h⟩ := h
  obtain ⟨ps, h1, h2, h3⟩ := trod_open 8 t ks fuel _ _ hk h
  have h1' : cs.size = ks.length := by simpa [Value.cells] using h1
  refine ⟨ps, h2, ⟨cs, rfl, by omega, fun j c hj => ?_⟩, fun j k hj => ?_⟩
  · have hjl : j < ks.length := by
      have := (List.getElem?_eq_some_iff.1 hj).1
      omega
    obtain ⟨c', x, hc, hx, _, hr⟩ := h3 j _ (List.getElem?_eq_getElem hjl)
    rw [hx] at hj; cases hj
    exact ⟨c', by simpa [Value.cells] using hc, hr⟩
  · obtain ⟨c', x, hc, hx, ht, _⟩ := h3 j k hj
    exact ⟨x, hx, ht⟩
theorem tally_open {H : Type} {enc : TypeId × Value → H} {W : World} {sp : Nat → Bool} {cs : Array Value} {d : DataW H} {p : List MemPlace} (h : DataW.Trod enc Try.prog W 0 sp true 25 (.agg cs) d p) :
    ∃ n most strays calls, RelR (fun _ _ => True) W (tyR n most strays calls) (.agg cs) := by
  obtain ⟨ps, hl, hr, ht⟩ := cells_agg kinds25 h
  obtain ⟨x0, e0, t0⟩ := ht 0 _ rfl
  obtain ⟨x1, e1, t1⟩ := ht 1 _ rfl
  obtain ⟨x2, e2, t2⟩ := ht 2 _ rfl
  obtain ⟨x3, e3, t3⟩ := ht 3 _ rfl
  obtain ⟨a0, rfl, _⟩ := tyI t0
  obtain ⟨a1, rfl, _⟩ := tyI t1
  obtain ⟨l2, rfl⟩ := tyS2 t2
  obtain ⟨l3, rfl⟩ := tyS4 t3
  refine ⟨a0, a1, l2, l3, ?_⟩
  have : ps = [iP a0, iP a1, .sl (l2.map row2), .sl (l3.map row4)] := by
    apply List.ext_getElem?
    intro j
    rcases j with _ | _ | _ | _ | j
    · exact e0
    · exact e1
    · exact e2
    · exact e3
    · rw [List.getElem?_eq_none (by rw [hl]; simp), List.getElem?_eq_none (by simp)]
  rw [this] at hr
  exact hr
theorem call_open {H : Type} {enc : TypeId × Value → H} {W : World} {sp : Nat → Bool} {cs : Array Value} {d : DataW H} {p : List MemPlace} (h : DataW.Trod enc Try.prog W 0 sp true 29 (.agg cs) d p) :
    ∃ c : Int × Int × Int × Int, RelR (fun _ _ => True) W (.agg (row4 c)) (.agg cs) := by
  obtain ⟨ps, hl, hr, ht⟩ := cells_agg kinds29 h
  obtain ⟨x0, e0, t0⟩ := ht 0 _ rfl
  obtain ⟨x1, e1, t1⟩ := ht 1 _ rfl
  obtain ⟨x2, e2, t2⟩ := ht 2 _ rfl
  obtain ⟨x3, e3, t3⟩ := ht 3 _ rfl
  obtain ⟨a0, rfl, _⟩ := tyI t0
  obtain ⟨a1, rfl, _⟩ := tyI t1
  obtain ⟨a2, rfl, _⟩ := tyI t2
  obtain ⟨a3, rfl, _⟩ := tyI t3
  refine ⟨(a0, a1, a2, a3), ?_⟩
  have : ps = row4 (a0, a1, a2, a3) := by
    unfold row4
    apply List.ext_getElem?
    intro j
    rcases j with _ | _ | _ | _ | j
    · exact e0
    · exact e1
    · exact e2
    · exact e3
    · rw [List.getElem?_eq_none (by rw [hl]; simp), List.getElem?_eq_none (by simp)]
  rw [this] at hr
  exact hr
theorem agg_of {W : World} {b : Nat} {t : TypeId} {fs : Array Field} {v : Value} (hu : Try.prog.underlying t = some (.struct fs)) (h : Value.okWide Try.prog W .any b t v) : ∃ cs, v = .agg cs := by
  unfold Value.okWide at h
  rw [hu] at h
  obtain ⟨cs, e, _⟩ := h
  exact ⟨cs, e⟩
theorem own : ownKnob Try.prog.godebug = none := by kernel_rfl
theorem laidOut : laidOutB Try.prog = true := by kernel_rfl
def rowK16 (n : Int) : List PV := [.v (.int .u16 n)]
set_option maxRecDepth 100000
theorem kinds49 : kindsOf Try.prog 8 49 = some [.sl [.int .u16]] := by kernel_rfl
theorem und49 : ∃ e, Try.prog.underlying 49 = some (.slice e) := ⟨(match Try.prog.underlying 49 with | some (.slice e) => e | _ => 0), by kernel_rfl⟩
theorem cell_open {H : Type} {enc : TypeId × Value → H} {W : World} {sp : Nat → Bool} {t : TypeId} {k : CK} {v : Value} {d : DataW H} {p : List MemPlace} (hk : kindsOf Try.prog 8 t = some [k]) (hv : v.cells = #[v]) (h : DataW.Trod enc Try.prog W 0 sp true t v d p) : ∃ x, Ty k x ∧ RelP (fun _ _ => True) W x v := by
  obtain ⟨fuel, h⟩ := h
  obtain ⟨ps, h1, h2, h3⟩ := trod_open 8 t [k] fuel _ _ hk h
  obtain ⟨c, x, hc, hx, ht, hr⟩ := h3 0 k rfl
  rw [hv] at hc
  simp at hc
  subst hc
  exact ⟨x, ht, hr⟩
theorem slice_of {W : World} {b : Nat} {t e : TypeId} {v : Value} (hu : Try.prog.underlying t = some (.slice e)) (h : Value.okWide Try.prog W .any b t v) : ∃ ao n c, v = .slice ao n c := by
  unfold Value.okWide at h
  rw [hu] at h
  simp only at h
  unfold Cell.okWide at h
  rw [hu] at h
  have h' : Cell.ok Try.prog W .any b t v := h
  unfold Cell.ok at h'
  rw [hu] at h'
  cases v with
  | slice ao n c => exact ⟨ao, n, c, rfl⟩
  | _ => exact False.elim h'
theorem mapU : ∀ (rows : List (List PV)), (∀ r ∈ rows, ∃ n, r = rowK16 n ∧ 0 ≤ n ∧ n ≤ 65535) → ∃ l : List Int, rows = l.map rowK16 ∧ ∀ x ∈ l, 0 ≤ x ∧ x ≤ 65535
  | [], _ => ⟨[], rfl, by simp⟩
  | r :: rs, h => by
    obtain ⟨n, hn, hb⟩ := h r (List.mem_cons_self ..)
    obtain ⟨l, hl, hlb⟩ := mapU rs fun r hr => h r (List.mem_cons_of_mem _ hr)
    refine ⟨n :: l, by rw [hn, hl]; rfl, fun x hx => ?_⟩
    rcases List.mem_cons.1 hx with rfl | hx
    · exact hb
    · exact hlb x hx
theorem u16s_open {H : Type} {enc : TypeId × Value → H} {W : World} {b : Nat} {sp : Nat → Bool} {v : Value} {d : DataW H} {p : List MemPlace} (hval : Value.okWide Try.prog W .any b 49 v) (h : DataW.Trod enc Try.prog W 0 sp true 49 v d p) :
    ∃ l : List Int, RelR (fun _ _ => True) W (.one (.sl (l.map rowK16))) v ∧ (∀ x ∈ l, 0 ≤ x ∧ x ≤ 65535) ∧ l.length ≤ 9223372036854775807 := by
  obtain ⟨e, hu⟩ := und49
  obtain ⟨ao, n, c, rfl⟩ := slice_of hu hval
  obtain ⟨x, ht, hr⟩ := cell_open (v := .slice ao n c) kinds49 (by rfl) h
  obtain ⟨rows, rfl, h1, h2⟩ := tyS ht
  obtain ⟨l, hl, hb⟩ := mapU rows fun r hr' => by
    have hlen := h1 r hr'
    match r, hlen with
    | [a], _ =>
      obtain ⟨n, rfl, hw⟩ := tyI (h2 _ hr' 0 _ _ rfl rfl)
      refine ⟨n, rfl, ?_⟩
      simp only [Lit.wf, Bool.and_eq_true, decide_eq_true_eq] at hw
      have : IntKind.min .u16 = 0 ∧ IntKind.max .u16 = 65535 := by decide
      omega
  subst hl
  refine ⟨l, hr, hb, ?_⟩
  cases hr with
  | sl _ k ao cap b off us hm hk hao hc hz hr => exact (by simpa using hm.2)
end Go.Proofs.Ytejbglbiefpagaa
