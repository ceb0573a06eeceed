/- classer: the document's has. -/
import Derived.Test.YtgdhdikeicgndaaWcJ
import Derived.Test.YtgdhdikeicgndaaWcI
set_option linter.all false
namespace Go.Proofs.Ytgdhdikeicgndaa
open Go Go.RowKit Go.Sh Go.Pv Go.Cl
set_option maxHeartbeats 2000000
set_option maxRecDepth 20000
set_option pp.maxSteps 60000
abbrev stP (s : St5) : List PV := [iP (s.1 : Int), iP (s.2.1 : Int), iP (s.2.2.1 : Int), .v (.bool s.2.2.2.1), iP (s.2.2.2.2 : Int)]
theorem rowsK_st (l : List St5) : rowsK 5 (l.map stP) = True := eq_true fun i r h => by rw [List.getElem?_map] at h; obtain ⟨x, _, rfl⟩ := Option.map_eq_some_iff.1 h; rfl
theorem st_beq (s t : St5) : ((s.1 : Int) == (t.1 : Int) && (s.2.1 : Int) == (t.2.1 : Int) && (s.2.2.1 : Int) == (t.2.2.1 : Int) && s.2.2.2.1 == t.2.2.2.1 && (s.2.2.2.2 : Int) == (t.2.2.2.2 : Int)) = decide (s = t) := by
  obtain ⟨a, b, c, d, e⟩ := s
  obtain ⟨x, y, z, v, u⟩ := t
  rw [Bool.eq_iff_iff]
  simp only [Bool.and_eq_true, beq_iff_eq, decide_eq_true_eq, Prod.mk.injEq]
  constructor
  · rintro ⟨⟨⟨⟨h1, h2⟩, h3⟩, h4⟩, h5⟩
    exact ⟨by omega, by omega, by omega, h4, by omega⟩
  · rintro ⟨h1, h2, h3, h4, h5⟩
    exact ⟨⟨⟨⟨by omega, by omega⟩, by omega⟩, h4⟩, by omega⟩
attribute [local go_sem] rowsK_st st_eql
theorem ok_hasD (l : List St5) (s : St5) (hl : l.length ≤ 900000000) : FunOK Try.prog 100 [.one (.sl (l.map stP)), .agg (stP s)] (.one (.one (.v (.bool (decide (s ∈ l)))))) := by
  have hll : (l.map stP).length = l.length := List.length_map _
  obtain ⟨B, hB⟩ : ∃ B, decide (s ∈ l) = B := ⟨_, rfl⟩
  rw [hB]
  refine fun_ok (nt := 18) (rs := [.tmp 4]) Try.func100 rfl rfl rfl (by simp) fun Z w0 => ?_; simp only [initFr, avR, List.map_cons, List.map_nil]
  refine tw ?_; try with_reducible intro QQ hQQ
  refine aw_weak (weak_keep [0, 3, 5] (by simp only [go_sem, ↓reduceIte]; rfl)) ?_
  refine aw_loop_ov (ι := { i : Nat // i ≤ l.length ∧ ∀ k, k < i → l.getD k (0, 0, 0, true, 0) ≠ s }) (fun i => [(5, iA i.1)]) (fun _ => []) (fun i => l.length - i.1) ⟨0, by omega, fun k hk => by omega⟩ (by first | rfl | (simp only [go_sem, ↓reduceIte]; first | done | rfl | (simp; try rfl))) ?_
  rintro ⟨i, hi, hn⟩
  simp (disch := decide) only [ov, ovL, AL.get_nil, AL.get_eq, AL.get_ne, Option.getD_some, Option.getD_none]
  by_cases hil : i < l.length
  · have hg : (l.map stP)[i]? = some (stP (l.getD i (0, 0, 0, true, 0))) := by rw [List.getElem?_map, List.getD_eq_getElem?_getD, List.getElem?_eq_getElem hil]; rfl
    obtain ⟨t, ht⟩ : ∃ t, l.getD i (0, 0, 0, true, 0) = t := ⟨_, rfl⟩
    have hm : t ∈ l := by rw [← ht, List.getD_eq_getElem?_getD, List.getElem?_eq_getElem hil]; exact List.getElem_mem hil
    rw [ht] at hg
    have hbe := st_beq t s
    by_cases e : t = s
    · have hBt : B = true := by rw [← hB]; exact decide_eq_true (e ▸ hm)
      subst hBt
      rw [decide_eq_true e] at hbe
      try clear hF
      have hF := And.intro hg (And.intro hll (hbe))
      refine twF ?_; try with_reducible intro QQ hQQ
      refine tiF ?_; try clear hQQ QQ
      refine twF ?_; try with_reducible intro QQ hQQ
      refine tiF ?_; try clear hQQ QQ
      refine twF ?_; try with_reducible intro QQ hQQ
      refine aw_ret ?_; refine ⟨.inr rfl, ?_⟩; simp only [resA, res1, go_sem, ↓reduceIte]
    · rw [decide_eq_false e] at hbe
      try clear hF
      have hF := And.intro hg (And.intro hll (hbe))
      refine twF ?_; try with_reducible intro QQ hQQ
      refine tiF ?_; try clear hQQ QQ
      refine twF ?_; try with_reducible intro QQ hQQ
      refine tiF ?_; try clear hQQ QQ
      refine twF ?_; try with_reducible intro QQ hQQ
      refine ⟨⟨i + 1, by omega, fun k hk => by
        by_cases ek : k = i
        · subst ek; rw [ht]; exact e
        · exact hn k (by omega)⟩, ?_, weak_round ?_ (by first | rfl | (simp only [hF, go_sem, ↓reduceIte]))⟩
      rotate_left
      · (simp only [hF, go_sem, ↓reduceIte]; try rfl)
      · show l.length - (i + 1) < l.length - i
        omega
  · have hie : i = l.length := by omega
    subst hie
    have hBf : B = false := by
      rw [← hB]
      refine decide_eq_false fun hm => ?_
      obtain ⟨k, hk, e⟩ := List.mem_iff_getElem.1 hm
      refine hn k hk ?_
      rw [List.getD_eq_getElem?_getD, List.getElem?_eq_getElem hk]
      exact e
    subst hBf
    try clear hF
    have hF := hll
    refine twF ?_; try with_reducible intro QQ hQQ
    refine tiF ?_; try clear hQQ QQ
    refine twF ?_; try with_reducible intro QQ hQQ
    refine aw_ret ?_; refine ⟨.inr rfl, ?_⟩; simp only [resA, res1, go_sem, ↓reduceIte]
end Go.Proofs.Ytgdhdikeicgndaa
