/- Kwc8: texts joined (WcC WcR WcA WcS WcB). -/
import Derived.Test.YtgdhdikeicgndaaKwa7
import Derived.Test.YtgdhdikeicgndaaKwa11
import Derived.Test.YtgdhdikeicgndaaRows
import Derived.Test.YtgdhdikeicgndaaKwa20
import Derived.Test.YtgdhdikeicgndaaKwa6
set_option linter.all false
/- classer: the document's small functions, walked. -/
namespace Go.Proofs.Ytgdhdikeicgndaa
open Go Go.RowKit Go.Sh Go.Pv Go.Cl
set_option maxHeartbeats 2000000
set_option maxRecDepth 20000
set_option pp.maxSteps 60000
theorem ok_in75 (n a b : Int) : FunOK Try.prog 75 [.one (iP n), .one (iP a), .one (iP b)] (.one (.one (.v (.bool (inB n a b))))) := by
  by_cases h1 : a ≤ n
  · by_cases h2 : n ≤ b
    · rw [show inB n a b = true by simp [inB, h1, h2]]
      refine fun_ok (nt := 15) (rs := [.tmp 6]) Try.func75 rfl rfl rfl (by simp) fun Z w0 => ?_; simp only [initFr, avR, List.map_cons, List.map_nil]
      refine tw ?_; try with_reducible intro QQ hQQ
      refine aw_ret ?_; refine ⟨.inr rfl, ?_⟩; simp only [resA, res1, go_sem, ↓reduceIte]
    · rw [show inB n a b = false by simp [inB, h2]]
      refine fun_ok (nt := 15) (rs := [.tmp 6]) Try.func75 rfl rfl rfl (by simp) fun Z w0 => ?_; simp only [initFr, avR, List.map_cons, List.map_nil]
      refine tw ?_; try with_reducible intro QQ hQQ
      refine aw_ret ?_; refine ⟨.inr rfl, ?_⟩; simp only [resA, res1, go_sem, ↓reduceIte]
  · rw [show inB n a b = false by simp [inB, h1]]
    refine fun_ok (nt := 15) (rs := [.tmp 6]) Try.func75 rfl rfl rfl (by simp) fun Z w0 => ?_; simp only [initFr, avR, List.map_cons, List.map_nil]
    refine tw ?_; try with_reducible intro QQ hQQ
    refine aw_ret ?_; refine ⟨.inr rfl, ?_⟩; simp only [resA, res1, go_sem, ↓reduceIte]
theorem rowsK_row3 (l : List (Int × Int × Int)) : rowsK 3 (l.map row3) = True := eq_true fun i r h => by rw [List.getElem?_map] at h; obtain ⟨x, _, rfl⟩ := Option.map_eq_some_iff.1 h; rfl
section
variable {bales : List (Int × Int × Int)} {may drift mist : Int}
theorem ok_LineD : FunOK Try.prog 34 [.agg [.sl (bales.map row3), iP may, iP drift, iP mist]] (.one (.one (.v (.bool (lineB bales may drift mist))))) := by
  have w1 := ok_in75 (bales.length : Int) 1 6
  have w2 := ok_in75 may 0 30
  have w3 := ok_in75 drift 0 30
  have w4 := ok_in75 mist 0 6
  have hll : (bales.map row3).length = bales.length := List.length_map _
  cases b1 : inB (bales.length : Int) 1 6
  · rw [b1] at w1
    rw [show lineB bales may drift mist = false by simp [lineB, b1]]
    refine fun_ok (nt := 60) (rs := [.tmp 2]) Try.func34 rfl rfl rfl (by simp) fun Z w0 => ?_; simp only [initFr, avR, List.map_cons, List.map_nil]
    try clear hF
    have hF := hll
    refine twF ?_; try with_reducible intro QQ hQQ
    ((refine cOF 75 rfl rfl rfl (w1) Try.func75 rfl ?_); refine tuF ?_; try clear hQQ QQ); refine twF ?_; try with_reducible intro QQ hQQ
    refine tiF ?_; try clear hQQ QQ
    refine twF ?_; try with_reducible intro QQ hQQ
    refine aw_ret ?_; refine ⟨.inr rfl, ?_⟩; simp only [resA, res1, go_sem, ↓reduceIte]
  rw [b1] at w1
  have hl6 : (bales.length : Int) ≤ 6 := by simp [inB] at b1; omega
  cases b2 : inB may 0 30
  · rw [b2] at w2
    rw [show lineB bales may drift mist = false by simp [lineB, b1, b2]]
    refine fun_ok (nt := 60) (rs := [.tmp 2]) Try.func34 rfl rfl rfl (by simp) fun Z w0 => ?_; simp only [initFr, avR, List.map_cons, List.map_nil]
    try clear hF
    have hF := hll
    refine twF ?_; try with_reducible intro QQ hQQ
    (refine cOF 75 rfl rfl rfl (w1) Try.func75 rfl ?_); refine tsF ?_; try clear hQQ QQ
    ((refine cOF 75 rfl rfl rfl (w2) Try.func75 rfl ?_); refine tuF ?_; try clear hQQ QQ); refine twF ?_; try with_reducible intro QQ hQQ
    refine tiF ?_; try clear hQQ QQ
    refine twF ?_; try with_reducible intro QQ hQQ
    refine aw_ret ?_; refine ⟨.inr rfl, ?_⟩; simp only [resA, res1, go_sem, ↓reduceIte]
  rw [b2] at w2
  cases b3 : inB drift 0 30
  · rw [b3] at w3
    rw [show lineB bales may drift mist = false by simp [lineB, b1, b2, b3]]
    refine fun_ok (nt := 60) (rs := [.tmp 2]) Try.func34 rfl rfl rfl (by simp) fun Z w0 => ?_; simp only [initFr, avR, List.map_cons, List.map_nil]
    try clear hF
    have hF := hll
    refine twF ?_; try with_reducible intro QQ hQQ
    (refine cOF 75 rfl rfl rfl (w1) Try.func75 rfl ?_); refine tsF ?_; try clear hQQ QQ
    (refine cOF 75 rfl rfl rfl (w2) Try.func75 rfl ?_); refine tsF ?_; try clear hQQ QQ
    ((refine cOF 75 rfl rfl rfl (w3) Try.func75 rfl ?_); refine tuF ?_; try clear hQQ QQ); refine twF ?_; try with_reducible intro QQ hQQ
    refine tiF ?_; try clear hQQ QQ
    refine twF ?_; try with_reducible intro QQ hQQ
    refine aw_ret ?_; refine ⟨.inr rfl, ?_⟩; simp only [resA, res1, go_sem, ↓reduceIte]
  rw [b3] at w3
  cases b4 : inB mist 0 6
  · rw [b4] at w4
    rw [show lineB bales may drift mist = false by simp [lineB, b1, b2, b3, b4]]
    refine fun_ok (nt := 60) (rs := [.tmp 2]) Try.func34 rfl rfl rfl (by simp) fun Z w0 => ?_; simp only [initFr, avR, List.map_cons, List.map_nil]
    try clear hF
    have hF := hll
    refine twF ?_; try with_reducible intro QQ hQQ
    (refine cOF 75 rfl rfl rfl (w1) Try.func75 rfl ?_); refine tsF ?_; try clear hQQ QQ
    (refine cOF 75 rfl rfl rfl (w2) Try.func75 rfl ?_); refine tsF ?_; try clear hQQ QQ
    (refine cOF 75 rfl rfl rfl (w3) Try.func75 rfl ?_); refine tsF ?_; try clear hQQ QQ
    ((refine cOF 75 rfl rfl rfl (w4) Try.func75 rfl ?_); refine tuF ?_; try clear hQQ QQ); refine twF ?_; try with_reducible intro QQ hQQ
    refine tiF ?_; try clear hQQ QQ
    refine twF ?_; try with_reducible intro QQ hQQ
    refine aw_ret ?_; refine ⟨.inr rfl, ?_⟩; simp only [resA, res1, go_sem, ↓reduceIte]
  rw [b4] at w4
  have hLB : lineB bales may drift mist = bales.all baleB := by simp [lineB, b1, b2, b3, b4]
  rw [hLB]
  obtain ⟨A, hA⟩ : ∃ A, bales.all baleB = A := ⟨_, rfl⟩
  rw [hA]
  clear hLB
  refine fun_ok (nt := 60) (rs := [.tmp 2]) Try.func34 rfl rfl rfl (by simp) fun Z w0 => ?_; simp only [initFr, avR, List.map_cons, List.map_nil]
  try clear hF
  have hF := hll
  refine twF ?_; try with_reducible intro QQ hQQ
  (refine cOF 75 rfl rfl rfl (w1) Try.func75 rfl ?_); refine tsF ?_; try clear hQQ QQ
  (refine cOF 75 rfl rfl rfl (w2) Try.func75 rfl ?_); refine tsF ?_; try clear hQQ QQ
  (refine cOF 75 rfl rfl rfl (w3) Try.func75 rfl ?_); refine tsF ?_; try clear hQQ QQ
  ((refine cOF 75 rfl rfl rfl (w4) Try.func75 rfl ?_); refine tuF ?_; try clear hQQ QQ); refine twF ?_; try with_reducible intro QQ hQQ
  refine tiF ?_; try clear hQQ QQ
  refine twF ?_; try with_reducible intro QQ hQQ
  refine aw_weak (weak_keep [1, 3] (by simp only [hF, go_sem, ↓reduceIte]; rfl)) ?_
  refine aw_loop_ov (ι := { i : Nat // i ≤ bales.length ∧ ∀ k, k < i → baleB (bales.getD k (0, 0, 0)) = true }) (fun i => [(3, iA i.1)]) (fun i => []) (fun i => bales.length - i.1) ⟨0, by omega, fun k hk => by omega⟩ (by first | rfl | (simp only [hF, go_sem, ↓reduceIte]; first | done | rfl | (simp; try rfl))) ?_
  rintro ⟨i, hi, hv⟩
  simp (disch := decide) only [ov, ovL, AL.get_nil, AL.get_eq, AL.get_ne, Option.getD_some, Option.getD_none]
  by_cases hil : i < bales.length
  · have hg : (bales.map row3)[i]? = some (row3 (bales.getD i (0, 0, 0))) := by rw [List.getElem?_map, List.getD_eq_getElem?_getD, List.getElem?_eq_getElem hil]; rfl
    obtain ⟨⟨x, y, z⟩, hb⟩ : ∃ q, bales.getD i (0, 0, 0) = q := ⟨_, rfl⟩
    have v1 := ok_in75 x 1 30
    have v2 := ok_in75 y 0 x
    have v3 := ok_in75 z 0 y
    rw [hb] at hg
    simp only [row3] at hg
    have hbad : ((inB x 1 30 && inB y 0 x) && inB z 0 y) = false → bales.all baleB = false := fun h => all_getD_f (d := (0, 0, 0)) hil (by rw [hb]; exact h)
    have hgood : ((inB x 1 30 && inB y 0 x) && inB z 0 y) = true → ∀ k, k < i + 1 → baleB (bales.getD k (0, 0, 0)) = true := fun h k hk => by
      by_cases e : k = i
      · subst e; rw [hb]; exact h
      · exact hv k (by omega)
    try clear hF
    have hF := And.intro hll (hg)
    refine twF ?_; try with_reducible intro QQ hQQ
    refine tiF ?_; try clear hQQ QQ
    refine twF ?_; try with_reducible intro QQ hQQ
    cases d1 : inB x 1 30
    · rw [d1] at v1
      have hAf : A = false := by rw [← hA]; exact hbad (by rw [d1]; rfl)
      subst hAf
      ((refine cOF 75 rfl rfl rfl (v1) Try.func75 rfl ?_); refine tuF ?_; try clear hQQ QQ); refine twF ?_; try with_reducible intro QQ hQQ
      refine tiF ?_; try clear hQQ QQ
      refine twF ?_; try with_reducible intro QQ hQQ
      refine aw_ret ?_; refine ⟨.inr rfl, ?_⟩; simp only [resA, res1, go_sem, ↓reduceIte]
    rw [d1] at v1
    cases d2 : inB y 0 x
    · rw [d2] at v2
      have hAf : A = false := by rw [← hA]; exact hbad (by rw [d1, d2]; rfl)
      subst hAf
      (refine cOF 75 rfl rfl rfl (v1) Try.func75 rfl ?_); refine tsF ?_; try clear hQQ QQ
      ((refine cOF 75 rfl rfl rfl (v2) Try.func75 rfl ?_); refine tuF ?_; try clear hQQ QQ); refine twF ?_; try with_reducible intro QQ hQQ
      refine tiF ?_; try clear hQQ QQ
      refine twF ?_; try with_reducible intro QQ hQQ
      refine aw_ret ?_; refine ⟨.inr rfl, ?_⟩; simp only [resA, res1, go_sem, ↓reduceIte]
    rw [d2] at v2
    cases d3 : inB z 0 y
    · rw [d3] at v3
      have hAf : A = false := by rw [← hA]; exact hbad (by rw [d1, d2, d3]; rfl)
      subst hAf
      (refine cOF 75 rfl rfl rfl (v1) Try.func75 rfl ?_); refine tsF ?_; try clear hQQ QQ
      (refine cOF 75 rfl rfl rfl (v2) Try.func75 rfl ?_); refine tsF ?_; try clear hQQ QQ
      ((refine cOF 75 rfl rfl rfl (v3) Try.func75 rfl ?_); refine tuF ?_; try clear hQQ QQ); refine twF ?_; try with_reducible intro QQ hQQ
      refine tiF ?_; try clear hQQ QQ
      refine twF ?_; try with_reducible intro QQ hQQ
      refine aw_ret ?_; refine ⟨.inr rfl, ?_⟩; simp only [resA, res1, go_sem, ↓reduceIte]
    rw [d3] at v3
    (refine cOF 75 rfl rfl rfl (v1) Try.func75 rfl ?_); refine tsF ?_; try clear hQQ QQ
    (refine cOF 75 rfl rfl rfl (v2) Try.func75 rfl ?_); refine tsF ?_; try clear hQQ QQ
    ((refine cOF 75 rfl rfl rfl (v3) Try.func75 rfl ?_); refine tuF ?_; try clear hQQ QQ); refine twF ?_; try with_reducible intro QQ hQQ
    refine tiF ?_; try clear hQQ QQ
    refine twF ?_; try with_reducible intro QQ hQQ
    (refine ⟨⟨i + 1, by omega, hgood (by rw [d1, d2, d3]; rfl)⟩, ?_, weak_round (by simp only [hF, go_sem, ↓reduceIte]; first | done | rfl) (by first | rfl | (simp only [hF, go_sem, ↓reduceIte]))⟩; (simp only; omega))
  · have : i = bales.length := by omega
    subst this
    have hAt : A = true := by rw [← hA]; exact all_getD.2 hv
    subst hAt
    try clear hF
    have hF := hll
    refine twF ?_; try with_reducible intro QQ hQQ
    refine tiF ?_; try clear hQQ QQ
    refine twF ?_; try with_reducible intro QQ hQQ
    refine aw_ret ?_; refine ⟨.inr rfl, ?_⟩; simp only [resA, res1, go_sem, ↓reduceIte]
theorem ok_BaleD (i : Int) (hl : bales.length ≤ 40) : FunOK Try.prog 49 [.agg [.sl (bales.map row3), iP may, iP drift, iP mist], .one (iP i)] (.one (.one (.v (.bool (inB i 0 ((bales.length : Int) - 1)))))) := by
  have w := ok_in75 i 0 ((bales.length : Int) - 1)
  have hll : (bales.map row3).length = bales.length := List.length_map _
  generalize inB i 0 ((bales.length : Int) - 1) = b at *
  refine fun_ok (nt := 11) (rs := [.tmp 4]) Try.func49 rfl rfl rfl (by simp) fun Z w0 => ?_; simp only [initFr, avR, List.map_cons, List.map_nil]
  try clear hF
  have hF := hll
  refine twF ?_; try with_reducible intro QQ hQQ
  ((refine cOF 75 rfl rfl rfl (w) Try.func75 rfl ?_); refine tuF ?_; try clear hQQ QQ); refine twF ?_; try with_reducible intro QQ hQQ
  refine aw_ret ?_; refine ⟨.inr rfl, ?_⟩; simp only [resA, res1, go_sem, ↓reduceIte]
/-- Is a line too long to be tried? -/
def farB (bales : List (Int × Int × Int)) : Bool := decide ((40 : Int) < bales.length)
theorem ok_far : FunOK Try.prog 33 [.agg [.sl (bales.map row3), iP may, iP drift, iP mist]] (.one (.one (.v (.bool (farB bales))))) := by
  have hll : (bales.map row3).length = bales.length := List.length_map _
  unfold farB
  refine fun_ok (nt := 7) (rs := [.tmp 2]) Try.func33 rfl rfl rfl (by simp) fun Z w0 => ?_; simp only [initFr, avR, List.map_cons, List.map_nil]
  try clear hF
  have hF := hll
  refine twF ?_; try with_reducible intro QQ hQQ
  refine aw_ret ?_; refine ⟨.inr rfl, ?_⟩; simp only [resA, res1, go_sem, ↓reduceIte]
theorem line_far (h : lineB bales may drift mist = true) : farB bales = false := by
  unfold lineB at h
  simp only [Bool.and_eq_true] at h
  obtain ⟨⟨⟨⟨h1, _⟩, _⟩, _⟩, _⟩ := h
  simp only [inB, Bool.and_eq_true, decide_eq_true_eq] at h1
  unfold farB
  rw [decide_eq_false_iff_not]
  omega
theorem ok_fine : FunOK Try.prog 30 [.agg [.sl (bales.map row3), iP may, iP drift, iP mist]] (.one (.one (.v (.bool (lineB bales may drift mist))))) := by
  have h1 := ok_far (bales := bales) (may := may) (drift := drift) (mist := mist)
  have h2 := ok_LineD (bales := bales) (may := may) (drift := drift) (mist := mist)
  have h3 := line_far (bales := bales) (may := may) (drift := drift) (mist := mist)
  cases e1 : lineB bales may drift mist
  · rw [e1] at h2
    clear h3 e1
    cases e2 : farB bales
    · rw [e2] at h1
      clear e2
      refine fun_ok (nt := 10) (rs := [.tmp 2]) Try.func30 rfl rfl rfl (by simp) fun Z w0 => ?_; simp only [initFr, avR, List.map_cons, List.map_nil]
      refine tw ?_; try with_reducible intro QQ hQQ
      (refine cO 33 rfl rfl rfl (h1) Try.func33 rfl ?_); refine ts ?_; try clear hQQ QQ
      ((refine cO 34 rfl rfl rfl (h2) Try.func34 rfl ?_); refine tu ?_; try clear hQQ QQ); refine tw ?_; try with_reducible intro QQ hQQ
      refine aw_ret ?_; refine ⟨.inr rfl, ?_⟩; simp only [resA, res1, go_sem, ↓reduceIte]
    · rw [e2] at h1
      clear e2
      refine fun_ok (nt := 10) (rs := [.tmp 2]) Try.func30 rfl rfl rfl (by simp) fun Z w0 => ?_; simp only [initFr, avR, List.map_cons, List.map_nil]
      refine tw ?_; try with_reducible intro QQ hQQ
      ((refine cO 33 rfl rfl rfl (h1) Try.func33 rfl ?_); refine tu ?_; try clear hQQ QQ); refine tw ?_; try with_reducible intro QQ hQQ
      refine aw_ret ?_; refine ⟨.inr rfl, ?_⟩; simp only [resA, res1, go_sem, ↓reduceIte]
  · rw [h3 e1] at h1
    rw [e1] at h2
    clear h3 e1
    refine fun_ok (nt := 10) (rs := [.tmp 2]) Try.func30 rfl rfl rfl (by simp) fun Z w0 => ?_; simp only [initFr, avR, List.map_cons, List.map_nil]
    refine tw ?_; try with_reducible intro QQ hQQ
    (refine cO 33 rfl rfl rfl (h1) Try.func33 rfl ?_); refine ts ?_; try clear hQQ QQ
    ((refine cO 34 rfl rfl rfl (h2) Try.func34 rfl ?_); refine tu ?_; try clear hQQ QQ); refine tw ?_; try with_reducible intro QQ hQQ
    refine aw_ret ?_; refine ⟨.inr rfl, ?_⟩; simp only [resA, res1, go_sem, ↓reduceIte]
end
end Go.Proofs.Ytgdhdikeicgndaa
/- A line among a law's arguments, as data. -/
namespace Go.Proofs.Ytgdhdikeicgndaa
open Go Go.RowKit Go.Sh Go.Pv Go.ChangeShapes Go.WideShapes
set_option linter.constructorNameAsVariable false
theorem tyI {k : IntKind} {x : PV} (h : Ty (.int k) x) : ∃ n, x = .v (.int k n) ∧ (Lit.int k n).wf = true := by
  cases h with
  | int _ n h => exact ⟨n, rfl, h⟩
theorem tyS {ks : List CK} {x : PV} (h : Ty (.sl ks) x) : ∃ rows, x = .sl rows ∧ (∀ r ∈ rows, r.length = ks.length) ∧ ∀ r ∈ rows, ∀ (j : Nat) (c : CK) (x : PV), ks[j]? = some c → r[j]? = some x → Ty c x := by
  cases h with
  | sl _ rows h1 h2 => exact ⟨rows, rfl, h1, h2⟩
theorem tyB {x : PV} (h : Ty .bool x) : ∃ b, x = .v (.bool b) := by
  cases h with
  | bool b => exact ⟨b, rfl⟩
abbrev ckI : CK := .int .i64
theorem map_of {α : Type} {row : α → List PV} : ∀ (rows : List (List PV)), (∀ r ∈ rows, ∃ x, r = row x) → ∃ l : List α, rows = l.map row
  | [], _ => ⟨[], rfl⟩
  | r :: rs, h => by
    obtain ⟨x, hx⟩ := h r (List.mem_cons_self ..)
    obtain ⟨l, hl⟩ := map_of rs fun r hr => h r (List.mem_cons_of_mem _ hr)
    exact ⟨x :: l, by rw [hx, hl]; rfl⟩
theorem tyS3 {x : PV} (h : Ty (.sl [ckI, ckI, ckI]) x) : ∃ l : List (Int × Int × Int), x = .sl (l.map row3) := by
  obtain ⟨rows, rfl, h1, h2⟩ := tyS h
  obtain ⟨l, hl⟩ := map_of (row := row3) rows fun r hr => by
    have hl := h1 r hr
    match r, hl with
    | [a, b, c], _ =>
      obtain ⟨n, rfl, _⟩ := tyI (h2 _ hr 0 _ _ rfl rfl)
      obtain ⟨m, rfl, _⟩ := tyI (h2 _ hr 1 _ _ rfl rfl)
      obtain ⟨q, rfl, _⟩ := tyI (h2 _ hr 2 _ _ rfl rfl)
      exact ⟨(n, m, q), rfl⟩
  exact ⟨l, by rw [hl]⟩
theorem kinds24 : kindsOf Try.prog 8 24 = some [.sl [ckI, ckI, ckI], ckI, ckI, ckI] := by kernel_rfl
theorem cells_agg {H : Type} {enc : TypeId × Value → H} {W : World} {sp : Nat → Bool} {t : TypeId} {ks : List CK} {cs : Array Value} {d : DataW H} {p : List MemPlace} (hk : kindsOf Try.prog 8 t = some ks) (h : DataW.Trod enc Try.prog W 0 sp true t (.agg cs) d p) : ∃ ps, ps.length = ks.length ∧ RelR (fun _ _ => True) W (.agg ps) (.agg cs) ∧ ∀ (j : Nat) (k : CK), ks[j]? = some k → ∃ x, ps[j]? = some x ∧ Ty k x := by
  obtain ⟨fuel, h⟩ := h
  obtain ⟨ps, h1, h2, h3⟩ := trod_open 8 t ks fuel _ _ hk h
  have h1' : cs.size = ks.length := by simpa [Value.cells] using h1
  refine ⟨ps, h2, ⟨cs, rfl, by omega, fun j c hj => ?_⟩, fun j k hj => ?_⟩
  · have hjl : j < ks.length := by
      have := (List.getElem?_eq_some_iff.1 hj).1
      omega
    obtain ⟨c', x, hc, hx, _, hr⟩ := h3 j _ (List.getElem?_eq_getElem hjl)
    rw [hx] at hj; cases hj
    exact ⟨c', by simpa [Value.cells] using hc, hr⟩
  · obtain ⟨c', x, hc, hx, ht, _⟩ := h3 j k hj
    exact ⟨x, hx, ht⟩
theorem class_open {H : Type} {enc : TypeId × Value → H} {W : World} {sp : Nat → Bool} {cs : Array Value} {d : DataW H} {p : List MemPlace} (h : DataW.Trod enc Try.prog W 0 sp true 24 (.agg cs) d p) :
    ∃ bales may drift mist, RelR (fun _ _ => True) W (lineR bales may drift mist) (.agg cs) := by
  obtain ⟨ps, hl, hr, ht⟩ := cells_agg kinds24 h
  obtain ⟨x0, e0, t0⟩ := ht 0 _ rfl
  obtain ⟨x1, e1, t1⟩ := ht 1 _ rfl
  obtain ⟨x2, e2, t2⟩ := ht 2 _ rfl
  obtain ⟨x3, e3, t3⟩ := ht 3 _ rfl
  obtain ⟨l0, rfl⟩ := tyS3 t0
  obtain ⟨a1, rfl, _⟩ := tyI t1
  obtain ⟨a2, rfl, _⟩ := tyI t2
  obtain ⟨a3, rfl, _⟩ := tyI t3
  refine ⟨l0, a1, a2, a3, ?_⟩
  have : ps = [.sl (l0.map row3), iP a1, iP a2, iP a3] := by
    apply List.ext_getElem?
    intro j
    rcases j with _ | _ | _ | _ | j
    · exact e0
    · exact e1
    · exact e2
    · exact e3
    · rw [List.getElem?_eq_none (by simp at hl ⊢; omega), List.getElem?_eq_none (by simp)]
  rw [this] at hr
  exact hr
theorem agg_of {W : World} {b : Nat} {t : TypeId} {fs : Array Field} {v : Value} (hu : Try.prog.underlying t = some (.struct fs)) (h : Value.okWide Try.prog W .any b t v) : ∃ cs, v = .agg cs := by
  unfold Value.okWide at h
  rw [hu] at h
  obtain ⟨cs, e, _⟩ := h
  exact ⟨cs, e⟩
theorem own : ownKnob Try.prog.godebug = none := by kernel_rfl
theorem laidOut : laidOutB Try.prog = true := by kernel_rfl
end Go.Proofs.Ytgdhdikeicgndaa
/- classer: the law's examples, reckoned. -/
namespace Go.Proofs.Ytgdhdikeicgndaa
open Go Go.RowKit Go.Sh Go.Pv Go.Cl
set_option maxRecDepth 100000
set_option maxHeartbeats 4000000
/-- The example's line. -/
def smB (a : Int) : List (Int × Int × Int) := [(10, 4, 1), (10, 5, 0), (8, 8, a)]
theorem e_wrong1 : whyL (smB 6) 2 2 1 (inB 1 0 (((smB 6).length : Int) - 1)) = 0 := by kernel_rfl
theorem e_wrong2 : wrongS 2 1 (nB (smB 6)) 1 = (3, 6) := by kernel_rfl
theorem e_all1 : whyL (smB 3) 2 2 1 true = 0 := by kernel_rfl
theorem e_all2 : allS 2 1 (nB (smB 3)) = (3, 16) := by kernel_rfl
theorem e_keeps1 : whyL (smB 3) 2 2 1 (inB 2 0 (((smB 3).length : Int) - 1)) = 0 := by kernel_rfl
theorem e_keeps2 : toldS 2 (wrongS 2 1 (nB (smB 3)) 2) = 1 := by kernel_rfl
theorem e_line2 : lineS 2 1 2 (nB (smB 3)) = 1 := by kernel_rfl
theorem e_proof1 : whyP (smB 6) 2 2 1 = 0 := by kernel_rfl
theorem e_proof2 : proofN (smB 6) 2 2 1 = 1 := by kernel_rfl
theorem e_mist2 : Go.Cl.mist 0 (nB (smB 8)) (2 ^ (smB 8).length - 1) = 3 := by kernel_rfl
theorem e_more1 : whyM (smB 3) 2 2 1 1 = 0 := by kernel_rfl
theorem e_more2 : moreN (smB 3) 2 2 1 1 = 4 := by kernel_rfl
theorem e_more3 : whyM (smB 3) 2 2 1 2 = 4 := by kernel_rfl
theorem e_clash1 : whyC (smB 8) 2 0 1 = 0 := by kernel_rfl
theorem e_clash2 : clS 0 1 (nB (smB 8)) = 6 := by kernel_rfl
end Go.Proofs.Ytgdhdikeicgndaa
/- classer, the law: equality of spans, conversions. -/
namespace Go.Proofs.Ytgdhdikeicgndaa
open Go Go.RowKit Go.Sh Go.Pv
theorem span_in (a b c d : Int) (n : Nat) : peek Try.prog (Op.equalIn (n + 1 + 1) 28 (.agg #[.int .i64 a, .int .i64 b]) (.agg #[.int .i64 c, .int .i64 d])) = some (a == c && b == d) :=
  eqIn_two (T := 28) (f0 := fieldN Try.prog 28 0) (f1 := fieldN Try.prog 28 1) (by kernel_rfl) (by kernel_rfl) (by kernel_rfl) (by kernel_rfl) (by kernel_rfl) (by kernel_rfl) (by kernel_rfl) (by kernel_rfl) (eqIn_int (k0 := .i64) (k := .i64) (by kernel_rfl)) (eqIn_int (k0 := .i64) (k := .i64) (by kernel_rfl))
theorem span_eql (a b c d : Int) (x y : Operand) : binA Try.prog .eql 28 x y (.agg #[.int .i64 a, .int .i64 b]) (.agg #[.int .i64 c, .int .i64 d]) = some (.bool (a == c && b == d)) := bin_eq_agg (by kernel_rfl) (span_in a b c d 9998) x y
theorem span_neq (a b c d : Int) (x y : Operand) : binA Try.prog .neq 28 x y (.agg #[.int .i64 a, .int .i64 b]) (.agg #[.int .i64 c, .int .i64 d]) = some (.bool (!(a == c && b == d))) := bin_ne_agg (by kernel_rfl) (span_in a b c d 9998) x y
theorem conv5' (a : Int) : convA Try.prog 5 3 (.int .u8 a) = some (.int .i64 (IntKind.i64.wrap a)) := conv_int (d := .int .u8) (by kernel_rfl) (by kernel_rfl) .u8 a
theorem eql4 (x y : Operand) (a b : Bool) : binA Try.prog .eql 4 x y (.bool a) (.bool b) = some (.bool (a == b)) := bin_eql_bool (by kernel_rfl) x y a b
theorem neq4 (x y : Operand) (a b : Bool) : binA Try.prog .neq 4 x y (.bool a) (.bool b) = some (.bool (a != b)) := bin_neq_bool (by kernel_rfl) x y a b
theorem rowsK_nil' (k : Nat) : rowsK k [] = True := eq_true fun i r h => by simp at h
theorem rowsK_cons' (k : Nat) (r : List PV) (l : List (List PV)) : rowsK k (r :: l) = (r.length = k ∧ rowsK k l) := propext ⟨fun h => ⟨h 0 r rfl, fun i r' hi => h (i + 1) r' hi⟩, fun h i r' hi => by
  cases i with
  | zero => cases hi; exact h.1
  | succ i => exact h.2 i r' hi⟩
theorem not_isEmpty_nil {α : Type} : (!([] : List α).isEmpty) = false := rfl
end Go.Proofs.Ytgdhdikeicgndaa
/- classer: the law's small functions; it is awake. -/
namespace Go.Proofs.Ytgdhdikeicgndaa
open Go Go.RowKit Go.Sh Go.Pv Go.Cl
set_option maxRecDepth 20000
set_option maxHeartbeats 2000000
set_option pp.maxSteps 60000
theorem ok_sample (a m : Int) : FunOK Try.prog 41 [.one (iP a), .one (iP m)] (.one (.agg [.sl ((smB a).map row3), iP 2, iP m, iP 1])) := by
  refine fun_ok (nt := 12) (rs := [.cell 4 24]) Try.func41 rfl rfl rfl (by simp) fun Z w0 => ?_; simp only [initFr, avR, List.map_cons, List.map_nil]
  simp only [smB, List.map_cons, List.map_nil, row3]
  refine tw ?_; try with_reducible intro QQ hQQ
  refine aw_ret ⟨.inr rfl, by simp (disch := first | decide | omega) only [resA, res1, go_sem]; first | done | rfl | (simp only [or_self, if_true]; rfl)⟩
theorem ok_span (a b : Int) : FunOK Try.prog 42 [.one (iP a), .one (iP b)] (.one (.agg [iP a, iP b])) := by
  refine fun_ok (nt := 8) (rs := [.cell 4 28]) Try.func42 rfl rfl rfl (by simp) fun Z w0 => ?_; simp only [initFr, avR, List.map_cons, List.map_nil]
  refine tw ?_; try with_reducible intro QQ hQQ
  refine aw_ret ?_; refine ⟨.inr rfl, ?_⟩; simp only [resA, res1, go_sem, ↓reduceIte]
theorem ok_inside (n a b : Int) : FunOK Try.prog 32 [.one (iP n), .agg [iP a, iP b]] (.one (.one (.v (.bool (inB n a b))))) := by
  by_cases h1 : a ≤ n
  · by_cases h2 : n ≤ b
    · rw [show inB n a b = true by simp [inB, h1, h2]]
      refine fun_ok (nt := 15) (rs := [.tmp 4]) Try.func32 rfl rfl rfl (by simp) fun Z w0 => ?_; simp only [initFr, avR, List.map_cons, List.map_nil]
      refine tw ?_; try with_reducible intro QQ hQQ
      refine aw_ret ?_; refine ⟨.inr rfl, ?_⟩; simp only [resA, res1, go_sem, ↓reduceIte]
    · rw [show inB n a b = false by simp [inB, h2]]
      refine fun_ok (nt := 15) (rs := [.tmp 4]) Try.func32 rfl rfl rfl (by simp) fun Z w0 => ?_; simp only [initFr, avR, List.map_cons, List.map_nil]
      refine tw ?_; try with_reducible intro QQ hQQ
      refine aw_ret ?_; refine ⟨.inr rfl, ?_⟩; simp only [resA, res1, go_sem, ↓reduceIte]
  · rw [show inB n a b = false by simp [inB, h1]]
    refine fun_ok (nt := 15) (rs := [.tmp 4]) Try.func32 rfl rfl rfl (by simp) fun Z w0 => ?_; simp only [initFr, avR, List.map_cons, List.map_nil]
    refine tw ?_; try with_reducible intro QQ hQQ
    refine aw_ret ?_; refine ⟨.inr rfl, ?_⟩; simp only [resA, res1, go_sem, ↓reduceIte]
theorem ok_within40 (a b : Int × Int) : FunOK Try.prog 40 [.agg [iP a.1, iP a.2], .agg [iP b.1, iP b.2]] (.one (.one (.v (.bool (decide (b.1 ≤ a.1) && decide (a.2 ≤ b.2)))))) := by
  by_cases h1 : b.1 ≤ a.1
  · by_cases h2 : a.2 ≤ b.2
    · rw [show (decide (b.1 ≤ a.1) && decide (a.2 ≤ b.2)) = true by simp [h1, h2]]
      refine fun_ok (nt := 17) (rs := [.tmp 4]) Try.func40 rfl rfl rfl (by simp) fun Z w0 => ?_; simp only [initFr, avR, List.map_cons, List.map_nil]
      refine tw ?_; try with_reducible intro QQ hQQ
      refine aw_ret ?_; refine ⟨.inr rfl, ?_⟩; simp only [resA, res1, go_sem, ↓reduceIte]
    · rw [show (decide (b.1 ≤ a.1) && decide (a.2 ≤ b.2)) = false by simp [h2]]
      refine fun_ok (nt := 17) (rs := [.tmp 4]) Try.func40 rfl rfl rfl (by simp) fun Z w0 => ?_; simp only [initFr, avR, List.map_cons, List.map_nil]
      refine tw ?_; try with_reducible intro QQ hQQ
      refine aw_ret ?_; refine ⟨.inr rfl, ?_⟩; simp only [resA, res1, go_sem, ↓reduceIte]
  · rw [show (decide (b.1 ≤ a.1) && decide (a.2 ≤ b.2)) = false by simp [h1]]
    refine fun_ok (nt := 17) (rs := [.tmp 4]) Try.func40 rfl rfl rfl (by simp) fun Z w0 => ?_; simp only [initFr, avR, List.map_cons, List.map_nil]
    refine tw ?_; try with_reducible intro QQ hQQ
    refine aw_ret ?_; refine ⟨.inr rfl, ?_⟩; simp only [resA, res1, go_sem, ↓reduceIte]
attribute [local go_sem] eql4 neq4 span_eql span_neq in
theorem ok_awake : FunOK Try.prog 13 [] (.one (.one (.v (.bool true)))) := by
  have hs1 := ok_sample 3 2
  have hs2 := ok_sample 6 2
  have hs3 := ok_sample 8 0
  have hw := ok_Wrong (bales := smB 6) (may := 2) (drift := 2) (mist := 1) 1
  rw [e_wrong1, show wrongS (2 : Int).toNat (1 : Int).toNat (nB (smB 6)) (1 : Int).toNat = (3, 6) from e_wrong2] at hw
  have ha := ok_All (bales := smB 3) (may := 2) (drift := 2) (mist := 1)
  rw [e_all1, show allS (2 : Int).toNat (1 : Int).toNat (nB (smB 3)) = (3, 16) from e_all2] at ha
  have hk := ok_Keeps (bales := smB 3) (may := 2) (drift := 2) (mist := 1) 2
  rw [e_keeps1, show toldS (2 : Int).toNat (wrongS (2 : Int).toNat (1 : Int).toNat (nB (smB 3)) (2 : Int).toNat) = 1 from e_keeps2] at hk
  have hl := ok_Line (bales := smB 3) (may := 2) (drift := 2) (mist := 1)
  rw [e_all1, show lineS (2 : Int).toNat (1 : Int).toNat (2 : Int).toNat (nB (smB 3)) = 1 from e_line2] at hl
  have hp := ok_Proof (bales := smB 6) (may := 2) (drift := 2) (mist := 1)
  rw [e_proof1, e_proof2] at hp
  have hm := ok_Mistaken (bales := smB 8) (may := 2) (drift := 0) (mist := 1)
  rw [show (if lineB (smB 8) 2 0 1 = true then (0 : Int) else 1) = 0 by kernel_rfl, show Go.Cl.mist (0 : Int).toNat (nB (smB 8)) (2 ^ (smB 8).length - 1) = 3 from e_mist2] at hm
  have ho := ok_More (bales := smB 3) (may := 2) (drift := 2) (mist := 1) 1
  rw [e_more1, e_more2] at ho
  have hn := ok_More (bales := smB 3) (may := 2) (drift := 2) (mist := 1) 2
  rw [e_more3] at hn
  have hc := ok_Clash (bales := smB 8) (may := 2) (drift := 0) (mist := 1)
  rw [e_clash1, show clS (0 : Int).toNat (1 : Int).toNat (nB (smB 8)) = 6 from e_clash2] at hc
  have hsp1 := ok_span 3 6
  have hsp2 := ok_span 3 16
  unfold lineR at *
  simp only [ansR, ansN, if_true, if_false, show ((4 : Int) = 0) = False from by decide, show ((1 : Nat) : Int) = 1 from rfl, show ((3 : Nat) : Int) = 3 from rfl, show ((4 : Nat) : Int) = 4 from rfl, show ((6 : Nat) : Int) = 6 from rfl, show ((16 : Nat) : Int) = 16 from rfl] at *
  generalize (smB 3).map row3 = r3 at *
  generalize (smB 6).map row3 = r6 at *
  generalize (smB 8).map row3 = r8 at *
  refine fun_ok (nt := 136) (rs := [.tmp 0]) Try.func13 rfl rfl rfl (by simp) fun Z w0 => ?_; simp only [initFr, avR, List.map_cons, List.map_nil]
  refine tw ?_; try with_reducible intro QQ hQQ
  (refine cB 41 rfl rfl rfl (hs1) Try.func41 rfl ?_); refine ts ?_; try clear hQQ QQ
  (refine cB 41 rfl rfl rfl (hs2) Try.func41 rfl ?_); refine ts ?_; try clear hQQ QQ
  ((refine cB 41 rfl rfl rfl (hs3) Try.func41 rfl ?_); refine tu ?_; try clear hQQ QQ); refine tw ?_; try with_reducible intro QQ hQQ
  ((refine cO 14 rfl rfl rfl (hw) Try.func14 rfl ?_); refine tu ?_; try clear hQQ QQ); refine tw ?_; try with_reducible intro QQ hQQ
  ((refine cO 16 rfl rfl rfl (ha) Try.func16 rfl ?_); refine tu ?_; try clear hQQ QQ); refine tw ?_; try with_reducible intro QQ hQQ
  ((refine cO 18 rfl rfl rfl (hk) Try.func18 rfl ?_); refine tu ?_; try clear hQQ QQ); refine tw ?_; try with_reducible intro QQ hQQ
  ((refine cO 20 rfl rfl rfl (hl) Try.func20 rfl ?_); refine tu ?_; try clear hQQ QQ); refine tw ?_; try with_reducible intro QQ hQQ
  ((refine cO 22 rfl rfl rfl (hp) Try.func22 rfl ?_); refine tu ?_; try clear hQQ QQ); refine tw ?_; try with_reducible intro QQ hQQ
  ((refine cO 24 rfl rfl rfl (hm) Try.func24 rfl ?_); refine tu ?_; try clear hQQ QQ); refine tw ?_; try with_reducible intro QQ hQQ
  ((refine cO 26 rfl rfl rfl (ho) Try.func26 rfl ?_); refine tu ?_; try clear hQQ QQ); refine tw ?_; try with_reducible intro QQ hQQ
  ((refine cO 28 rfl rfl rfl (hc) Try.func28 rfl ?_); refine tu ?_; try clear hQQ QQ); refine tw ?_; try with_reducible intro QQ hQQ
  (refine cO 26 rfl rfl rfl (hn) Try.func26 rfl ?_); refine ts ?_; try clear hQQ QQ
  (repeat (first | with_reducible refine then_n ?_ | with_reducible refine block_n ?_))
  refine aw_weak (weak_restrict [0, 4, 5, 6, 7, 8, 9, 10, 11, 12, 13, 14, 15, 16, 17, 18, 19, 21] [3, 4] 5 (by simp only [go_sem, ↓reduceIte]; rfl)) ?_
  refine tw ?_; try with_reducible intro QQ hQQ
  (refine cD 42 rfl rfl rfl (hsp1) Try.func42 rfl ?_); refine td ?_; try clear hQQ QQ
  refine tw ?_; try with_reducible intro QQ hQQ
  (refine cD 42 rfl rfl rfl (hsp2) Try.func42 rfl ?_); refine td ?_; try clear hQQ QQ
  refine tw ?_; try with_reducible intro QQ hQQ
  refine ti ?_; try clear hQQ QQ
  refine tw ?_; try with_reducible intro QQ hQQ
  refine aw_ret ?_; refine ⟨.inr rfl, ?_⟩; simp only [resA, res1, go_sem, ↓reduceIte]
end Go.Proofs.Ytgdhdikeicgndaa
