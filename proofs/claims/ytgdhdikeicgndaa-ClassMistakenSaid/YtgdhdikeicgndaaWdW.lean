/- Numbers of 16 bits among a law's arguments, as data. -/
import Derived.Test.YtgdhdikeicgndaaKwc8
set_option linter.all false
namespace Go.Proofs.Ytgdhdikeicgndaa
open Go Go.RowKit Go.Sh Go.Pv Go.ChangeShapes Go.WideShapes
set_option linter.constructorNameAsVariable false
def rowK16 (n : Int) : List PV := [.v (.int .u16 n)]
set_option maxRecDepth 100000
theorem kinds36 : kindsOf Try.prog 8 36 = some [.sl [.int .u16]] := by kernel_rfl
theorem und36 : ∃ e, Try.prog.underlying 36 = some (.slice e) := ⟨(match Try.prog.underlying 36 with | some (.slice e) => e | _ => 0), by kernel_rfl⟩
theorem cell_open {H : Type} {enc : TypeId × Value → H} {W : World} {sp : Nat → Bool} {t : TypeId} {k : CK} {v : Value} {d : DataW H} {p : List MemPlace} (hk : kindsOf Try.prog 8 t = some [k]) (hv : v.cells = #[v]) (h : DataW.Trod enc Try.prog W 0 sp true t v d p) : ∃ x, Ty k x ∧ RelP (fun _ _ => True) W x v := by
  obtain ⟨fuel, h⟩ := h
  obtain ⟨ps, h1, h2, h3⟩ := trod_open 8 t [k] fuel _ _ hk h
  obtain ⟨c, x, hc, hx, ht, hr⟩ := h3 0 k rfl
  rw [hv] at hc
  simp at hc
  subst hc
  exact ⟨x, ht, hr⟩
theorem slice_of {W : World} {b : Nat} {t e : TypeId} {v : Value} (hu : Try.prog.underlying t = some (.slice e)) (h : Value.okWide Try.prog W .any b t v) : ∃ ao n c, v = .slice ao n c := by
  unfold Value.okWide at h
  rw [hu] at h
  simp only at h
  unfold Cell.okWide at h
  rw [hu] at h
  have h' : Cell.ok Try.prog W .any b t v := h
  unfold Cell.ok at h'
  rw [hu] at h'
  cases v with
  | slice ao n c => exact ⟨ao, n, c, rfl⟩
  | _ => exact False.elim h'
theorem mapU : ∀ (rows : List (List PV)), (∀ r ∈ rows, ∃ n, r = rowK16 n ∧ 0 ≤ n ∧ n ≤ 65535) → ∃ l : List Int, rows = l.map rowK16 ∧ ∀ x ∈ l, 0 ≤ x ∧ x ≤ 65535
  | [], _ => ⟨[], rfl, by simp⟩
  | r :: rs, h => by
    obtain ⟨n, hn, hb⟩ := h r (List.mem_cons_self ..)
    obtain ⟨l, hl, hlb⟩ := mapU rs fun r hr => h r (List.mem_cons_of_mem _ hr)
    refine ⟨n :: l, by rw [hn, hl]; rfl, fun x hx => ?_⟩
    rcases List.mem_cons.1 hx with rfl | hx
    · exact hb
    · exact hlb x hx
theorem u16s_open {H : Type} {enc : TypeId × Value → H} {W : World} {b : Nat} {sp : Nat → Bool} {v : Value} {d : DataW H} {p : List MemPlace} (hval : Value.okWide Try.prog W .any b 36 v) (h : DataW.Trod enc Try.prog W 0 sp true 36 v d p) :
    ∃ l : List Int, RelR (fun _ _ => True) W (.one (.sl (l.map rowK16))) v ∧ (∀ x ∈ l, 0 ≤ x ∧ x ≤ 65535) ∧ l.length ≤ 9223372036854775807 := by
  obtain ⟨e, hu⟩ := und36
  obtain ⟨ao, n, c, rfl⟩ := slice_of hu hval
  obtain ⟨x, ht, hr⟩ := cell_open (v := .slice ao n c) kinds36 (by rfl) h
  obtain ⟨rows, rfl, h1, h2⟩ := tyS ht
  obtain ⟨l, hl, hb⟩ := mapU rows fun r hr' => by
    have hlen := h1 r hr'
    match r, hlen with
    | [a], _ =>
      obtain ⟨n, rfl, hw⟩ := tyI (h2 _ hr' 0 _ _ rfl rfl)
      refine ⟨n, rfl, ?_⟩
      simp only [Lit.wf, Bool.and_eq_true, decide_eq_true_eq] at hw
      have : IntKind.min .u16 = 0 ∧ IntKind.max .u16 = 65535 := by decide
      omega
  subst hl
  refine ⟨l, hr, hb, ?_⟩
  cases hr with
  | sl _ k ao cap b off us hm hk hao hc hz hr => exact (by simpa using hm.2)
end Go.Proofs.Ytgdhdikeicgndaa
