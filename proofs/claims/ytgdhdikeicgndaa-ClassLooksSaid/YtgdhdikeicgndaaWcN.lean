/- classer: the document's states of all truths. -/
import Derived.Test.YtgdhdikeicgndaaWcM
set_option linter.all false
namespace Go.Proofs.Ytgdhdikeicgndaa
open Go Go.RowKit Go.Sh Go.Pv Go.Cl
set_option maxHeartbeats 4000000
set_option maxRecDepth 20000
set_option pp.maxSteps 60000
section
variable {bs : List (Nat × Nat × Nat)} {D May most tk : Nat} {asked : Int}
theorem sig_ask_le (f : Nat → Nat) : ∀ n, (∀ k, k < n → f k ≤ 30) → (sig bs May tk asked f n).2.2.2.2 ≤ 30
  | 0, _ => Nat.zero_le _
  | n + 1, h => by
    have ih := sig_ask_le f n fun k hk => h k (by omega)
    have hn := h n (by omega)
    show (if decide ((n : Int) = asked) = true then f n else (sig bs May tk asked f n).2.2.2.2) ≤ 30
    split
    · exact hn
    · exact ih
theorem sumN_30 {f : Nat → Nat} : ∀ n, (∀ k, k < n → f k ≤ 30) → sumN f n ≤ 30 * n
  | 0, _ => Nat.le_refl _
  | n + 1, h => by
    have ih := sumN_30 n fun k hk => h k (by omega)
    have := h n (by omega)
    show sumN f n + f n ≤ _
    omega
theorem st_bd (h : LOK bs) (hm : most ≤ 1000) {n : Nat} (hn : n ≤ bs.length) : ∀ s ∈ stL bs D May most tk asked n, s.1 ≤ 30 ∧ s.2.1 ≤ 1000 ∧ s.2.2.1 ≤ 1000 ∧ s.2.2.2.2 ≤ 30 := by
  intro s hs
  obtain ⟨f, f1, f2, f3, rfl⟩ := mem_stL.1 hs
  have hb : ∀ k, k < n → f k ≤ 30 := fun k hk => by
    have := f1 k hk
    have := (h.bd k).1
    omega
  have h6 := h.n6
  have hs := sumN_30 n hb
  refine ⟨?_, ?_, by omega, sig_ask_le f n hb⟩
  · rcases n with _ | n
    · exact Nat.zero_le _
    · exact hb n (by omega)
  · rw [sig_all]; omega
theorem st_len5 (h : LOK bs) {n : Nat} (hn : n ≤ 5) : (stL bs D May most tk asked n).length ≤ 28629151 :=
  Nat.le_trans (stL_len h n) (Nat.le_trans (Nat.pow_le_pow_right (by decide) hn) (by decide))
theorem st_len6 (h : LOK bs) {n : Nat} (hn : n ≤ 6) : (stL bs D May most tk asked n).length ≤ 887503681 :=
  Nat.le_trans (stL_len h n) (Nat.le_trans (Nat.pow_le_pow_right (by decide) hn) (by decide))
theorem ok_states63 (h : LOK bs) (hMay : May ≤ 30) (hD : D ≤ 30) (hm : most ≤ 1000) (htk : tk < 64) (mist : Int) :
    FunOK Try.prog 63 [.agg [.sl (bs.map baleP), iP (May : Int), iP (D : Int), iP mist], .one (iP asked), .one (iP (tk : Int)), .one (iP (most : Int))] (.one (.one (.sl ((stL bs D May most tk asked bs.length).map stP)))) := by
  have h6 := h.n6
  have haf : ∀ n, n < bs.length → FunOK Try.prog 86 [.agg [.sl (bs.map baleP), iP (May : Int), iP (D : Int), iP mist], .one (iP (n : Int)), .one (iP asked), .one (.v (.bool (tk.testBit n))), .one (iP (most : Int)), .one (.sl ((stL bs D May most tk asked n).map stP))] (.one (.one (.sl ((stL bs D May most tk asked (n + 1)).map stP)))) := fun n hn => ok_after86 h hn hMay hD hm mist (st_len5 h (by omega)) (st_bd h hm (by omega))
  have hll : (bs.map baleP).length = bs.length := List.length_map _
  have hl0 : (stL bs D May most tk asked 0).map stP = [[iP 0, iP 0, iP 0, .v (.bool true), iP 0]] := rfl
  generalize stL bs D May most tk asked = L at *
  refine fun_ok (nt := 30) (rs := [.tmp 8]) Try.func63 rfl rfl rfl (by simp) fun Z w0 => ?_; simp only [initFr, avR, List.map_cons, List.map_nil]
  refine tw ?_; try with_reducible intro QQ hQQ
  refine aw_weak (weak_dataS 9 (t := 1) (n := 1) (E := 67) (k := 5) (rows := [[iP 0, iP 0, iP 0, .v (.bool true), iP 0]]) (by rfl) (by rfl)) ?_
  try clear hF
  have hF := hl0
  refine aw_weak (weak_keep [1, 2, 3, 4, 9, 10] (by simp only [hF, go_sem, ↓reduceIte]; rfl)) ?_
  refine aw_loop_ov (ι := { n : Nat // n ≤ bs.length }) (fun n => [(9, .one (.p (.sl ((L n.1).map stP)))), (10, iA n.1)]) (fun _ => []) (fun n => bs.length - n.1) ⟨0, by omega⟩ (by first | rfl | (simp only [hF, go_sem, ↓reduceIte]; first | done | rfl | (simp; try rfl))) ?_
  rintro ⟨n, hn⟩
  simp (disch := decide) only [ov, ovL, AL.get_nil, AL.get_eq, AL.get_ne, Option.getD_some, Option.getD_none]
  by_cases hnl : n < bs.length
  · have ha := haf n hnl
    have hh := ok_HasD tk n (by omega) (by omega)
    try clear hF
    have hF := hll
    refine twF ?_; try with_reducible intro QQ hQQ
    refine tiF ?_; try clear hQQ QQ
    refine twF ?_; try with_reducible intro QQ hQQ
    (refine cDF 87 rfl rfl rfl (hh) Try.func87 rfl ?_); refine tdF ?_; try clear hQQ QQ
    ((refine cGF 86 rfl rfl rfl (ha) Try.func86 rfl ?_); refine tvF ?_; try clear hQQ QQ); refine twF ?_; try with_reducible intro QQ hQQ
    (refine ⟨⟨n + 1, by omega⟩, ?_, weak_round (by simp only [hF, go_sem, ↓reduceIte]; first | done | rfl) (by first | rfl | (simp only [hF, go_sem, ↓reduceIte]))⟩; (simp only; omega))
  · have hne : n = bs.length := by omega
    subst hne
    try clear hF
    have hF := hll
    refine twF ?_; try with_reducible intro QQ hQQ
    refine tiF ?_; try clear hQQ QQ
    refine twF ?_; try with_reducible intro QQ hQQ
    refine aw_ret ?_; refine ⟨.inr rfl, ?_⟩; simp only [resA, res1, go_sem, ↓reduceIte]
end
end Go.Proofs.Ytgdhdikeicgndaa
